/-
 The reference's Parse of tables. Conditions: lengths. (Printed by tools/mkRx8.py.)
-/
import Derived.Test.YtdchjacccmajcaaGreatDoorZRx6
import Derived.Test.YtdchjacccmajcaaGreatDoorZRx7
import Derived.Test.YtdchjacccmajcaaGreatDoorZRw2
import Derived.Test.YtdchjacccmajcaaGreatDoorZRfL
import Derived.Deep.Cut
namespace Go.Proofs.YtdchjacccmajcaaGreatDoor
open Go.RowKit Go.Maps Go.Lib

theorem results_parseX {tmps : Array Value} {w : World} {D : Nat} {vr vd ve er at_ : Value} {x y u : Int} (h2 : tmps.getD 2 undef = .pointer (some ⟨D, 0, none⟩)) (h3 : tmps.getD 3 undef = er) (h4 : tmps.getD 4 undef = at_)
  (h : w.heap[D]? = some (.cells #[vr, vd, ve, .int .i64 x, .int .i64 y, .int .i64 u] 25 (0, 0))) : (results Tryz.f33 tmps).run Tryz.prog w = .ok (.tuple #[.agg #[vr, vd, ve, .int .i64 x, .int .i64 y, .int .i64 u], er, at_]) w := by
 have hl : (loadVar 25 ⟨D, 0, none⟩).run Tryz.prog w = .ok (.agg #[vr, vd, ve, .int .i64 x, .int .i64 y, .int .i64 u]) w := run_loadVar_row w D _ 25 _ _ _ h Tryz.underlying25 rfl (by kernel_rfl)
 have h2' : tmps[2]?.getD undef = .pointer (some ⟨D, 0, none⟩) := by simpa using h2
 have h3' : tmps[3]?.getD undef = er := by simpa using h3
 have h4' : tmps[4]?.getD undef = at_ := by simpa using h4
 simp [results, h2', h3', h4', asAddr, hl, Result.andThen]

/-- what stands there between the lines of Parse: D the result's box, q the table's -/
structure PrX (w0 W : World) (D p : Nat) (l : List Fa.T) (e : Nat) (R : Rw.RS) (v : Value) (q : Nat) (rs : List Rw.Rule) (ds es : List Rw.Drop) (rv dv ev : Value) (x y u : Int) : Prop where
 bx : BxX w0 W p l e R v q 25 #[rv, dv, ev, .int .i64 x, .int .i64 y, .int .i64 u]
 z : W.heap[D]? = some (.cells #[.slice none 0 0, .slice none 0 0, .slice none 0 0, .int .i64 0, .int .i64 0, .int .i64 0] 25 (0, 0))
 dp : D < p
 fr : SlIn W rv (fun k => q < k) 4 ruleCells rs
 fd : SlIn W dv (fun k => q < k) 3 dropCells ds
 fe : SlIn W ev (fun k => q < k) 3 dropCells es
section
variable {w0 W W' : World} {D p e q : Nat} {l : List Fa.T} {R R' : Rw.RS} {v : Value} {rs : List Rw.Rule} {ds es : List Rw.Drop} {rv dv ev : Value} {x y u : Int}
theorem PrX.pq (h : PrX w0 W D p l e R v q rs ds es rv dv ev x y u) : p < q := by have := h.bx.q; have := h.bx.p; omega
theorem PrX.call (h : PrX w0 W D p l e R v q rs ds es rv dv ev x y u) (hr : RdX W' p l e R' v) (ht : Tch (fun b => b = p) W W') : PrX w0 W' D p l e R' v q rs ds es rv dv ev x y u := by
 have hpq := h.pq
 exact ⟨h.bx.step hr ht, (ht.block D (Array.getElem?_eq_some_iff.1 h.z).1 (by have := h.dp; show ¬ D = p; omega)).trans h.z, h.dp,
  h.fr.tch ht fun k hk e => by have e' : k = p := e; omega, h.fd.tch ht fun k hk e => by have e' : k = p := e; omega, h.fe.tch ht fun k hk e => by have e' : k = p := e; omega⟩
theorem PrX.below (h : PrX w0 W D p l e R v q rs ds es rv dv ev x y u) (hb : Below W.heap.size W W') : PrX w0 W' D p l e R v q rs ds es rv dv ev x y u := h.call (h.bx.rd.below hb) (Tch.of_below hb _)
/-- a store into the table's box -/
theorem PrX.set (h : PrX w0 W D p l e R v q rs ds es rv dv ev x y u) (j : Nat) (c : Value) {rs' : List Rw.Rule} {ds' es' : List Rw.Drop} {rv' dv' ev' : Value} {x' y' u' : Int} (hc : (#[rv, dv, ev, .int .i64 x, .int .i64 y, .int .i64 u] : Array Value).setIfInBounds j c = #[rv', dv', ev', .int .i64 x', .int .i64 y', .int .i64 u'])
  (h1 : SlIn W rv' (fun k => q < k) 4 ruleCells rs') (h2 : SlIn W dv' (fun k => q < k) 3 dropCells ds') (h3 : SlIn W ev' (fun k => q < k) 3 dropCells es') : PrX w0 (W.setCell ⟨q, j, none⟩ c) D p l e R v q rs' ds' es' rv' dv' ev' x' y' u' := by
 have hpq := h.pq
 have hT : Tch (fun b => b = q) W (W.setCell ⟨q, j, none⟩ c) := (Tch.refl (fun b => b = q) W).setCell (a := ⟨q, j, none⟩) (.inl rfl) _
 have hb := h.bx.set j c
 rw [hc] at hb
 exact ⟨hb, (hT.block D (Array.getElem?_eq_some_iff.1 h.z).1 (by have := h.dp; show ¬ D = q; omega)).trans h.z, h.dp,
  h1.tch hT fun k hk e => by have e' : k = q := e; omega, h2.tch hT fun k hk e => by have e' : k = q := e; omega, h3.tch hT fun k hk e => by have e' : k = q := e; omega⟩
theorem PrX.own {W0 : World} {α : Type} {c : α → List Value} {T : TypeId} {sz n : Nat} {b : Value} {L : List α} (h : PrX w0 W0 D p l e R v q rs ds es rv dv ev x y u) (ho : W'.ownsRow W0.heap.size T sz b n (L.flatMap c)) (hn : n = L.length) (hc : ∀ x ∈ L, (c x).length = sz) : SlIn W' b (fun k => q < k) sz c L := by
 subst hn
 exact (SlIn.own ho hc).mono fun k hk _ => by have h1 := (ho.lt k hk).1; have h2 := h.bx.lt; show q < k; omega
end
/-- tokens that are left to a reader that has no error -/
def leftX (n : Nat) (w : World) (p : Nat) : Nat := match w.cell? ⟨p, 3, none⟩, w.cell? ⟨p, 1, none⟩ with | some (.int _ er), some (.int _ k) => if er = 0 then 1 + (n - k.toNat) else 0 | _, _ => 0
theorem RdX.left {w : World} {p e : Nat} {l : List Fa.T} {R : Rw.RS} {v : Value} (h : RdX w p l e R v) : leftX l.length w p = if R.er = 0 then 1 + (l.length - R.k) else 0 := by
 obtain ⟨-, c1, -, c3, -, -⟩ := h.cells
 unfold leftX
 rw [c1, c3]
 simp
theorem left_less {w w' : World} {p e : Nat} {l : List Fa.T} {R R' : Rw.RS} {v : Value} (h : RdX w p l e R v) (h' : RdX w' p l e R' v) (h0 : R.er = 0) (hs : R'.er = 0 → R.k < R'.k ∧ R'.k ≤ l.length) : leftX l.length w' p < leftX l.length w p := by
 rw [h.left, h'.left, if_pos h0]
 by_cases h1 : R'.er = 0
 ·rw [if_pos h1]
  have := hs h1
  omega
 ·rw [if_neg h1]
  omega

set_option maxRecDepth 100000 in
set_option maxHeartbeats 20000000 in
theorem rparse_any10 (s : List UInt8) (w : World) (hs : s.length ≤ 20000) : Calls Tryz.prog 33 #[.string (bs s)] w (ParseT w (Rw.parse s)) := by
 obtain ⟨W1, hW1⟩ : ∃ W1, W1 = w.alloc (.cells #[.slice none 0 0, .slice none 0 0, .slice none 0 0, .int .i64 0, .int .i64 0, .int .i64 0] 25) := ⟨_, rfl⟩
 have hb1 : Below w.heap.size w W1 := by rw [hW1]; exact (Below.refl _ w).alloc (Nat.le_refl _) _
 have HZ1 := hid (show W1.heap[w.heap.size]? = some (.cells #[.slice none 0 0, .slice none 0 0, .slice none 0 0, .int .i64 0, .int .i64 0, .int .i64 0] 25 (0, 0)) by rw [hW1]; exact alloc_new w _)
 have HLX := hid (rlex_any (bs s) W1 (by rw [bs_len]; unfold maxLen; omega))
 rw [show (bs s).data.toList = s from rfl] at HLX
 rcases hl : Lx.lex s with ⟨l, x, y⟩
 rw [hl] at HLX
 have HL := hid hl
 have HB1 := hid hb1
 obtain ⟨hll, ht4⟩ := Lx.lex_all hl
 have HT4 := hid ht4
 have HBN := hid (show Rw.Bnd s.length l from (Lx.lex_out hs hl).1)
 have hsl : s.length ≤ 20000 := hs
 have HPO := hid (fun h => ((Rw.parse_out hs).2 h).1)
 clear hl hb1 hs ht4
 go_enter Tryz.func33, Tryz.ntmps33
 go_wp2_with fail
 rw [← hW1]
 clear hW1
 refine (HLX.out).mono ?_
 rintro en w2 ⟨v, rfl, ho2, hb2⟩
 obtain ⟨tva, tcap, rfl⟩ := ownsRow_slice ho2
 have HTK := hid (toks_inP ho2)
 have HB2 := hid (Below.step HB1.out hb2)
 have HZ2 := hid ((hb2.block _ (Array.getElem?_eq_some_iff.1 HZ1.out).1).trans HZ1.out)
 have hw12 : w.heap.size < W1.heap.size := (Array.getElem?_eq_some_iff.1 HZ1.out).1
 have hw2 : W1.heap.size ≤ w2.heap.size := hb2.size
 clear ho2 hb2
 by_cases hx : x = 0
 rotate_left
 ·have hx1 : (x != 0) = true := by rw [bne_iff_ne]; exact hx
  have HE := hid (Rw.parse_bad HL.out hx)
  have z0 : w2.cell? ⟨w.heap.size, 0, none⟩ = some (.slice none 0 0) := by simp [World.cell?, HZ2.out]
  have z1 : w2.cell? ⟨w.heap.size, 1, none⟩ = some (.slice none 0 0) := by simp [World.cell?, HZ2.out]
  have z2 : w2.cell? ⟨w.heap.size, 2, none⟩ = some (.slice none 0 0) := by simp [World.cell?, HZ2.out]
  have z3 : w2.cell? ⟨w.heap.size, 3, none⟩ = some (.int .i64 0) := by simp [World.cell?, HZ2.out]
  have z4 : w2.cell? ⟨w.heap.size, 4, none⟩ = some (.int .i64 0) := by simp [World.cell?, HZ2.out]
  have z5 : w2.cell? ⟨w.heap.size, 5, none⟩ = some (.int .i64 0) := by simp [World.cell?, HZ2.out]
  have zf : ∀ j, w2.frozen? ⟨w.heap.size, j, none⟩ = false := fun j => frozen_of_row w2 _ j _ _ HZ2.out
  have zl : w.heap.size < w2.heap.size := by omega
  clear hx
  go_wp2_with fail
  refine ⟨rfl, _, results_parseX rfl rfl rfl (blk_setP (blk_setP (blk_setP (blk_setP (blk_setP (blk_setP HZ2.out 0 _) 1 _) 2 _) 3 _) 4 _) 5 _), ?_⟩
  rw [HE.out]
  exact ⟨_, rfl, fits_none _ (fun _ => True), HB2.out.trans ((setT_tch w2 w.heap.size (.slice none 0 0) (.slice none 0 0) (.slice none 0 0) 0 0 0).below HB2.out.size (fun k e => by have e' : k = w.heap.size := e; omega))⟩
 subst hx
 obtain ⟨W3, hW3⟩ : ∃ W3, W3 = w2.alloc (.cells #[.slice tva l.length tcap, .int .i64 0, .int .i64 ((bs s).size : Int), .int .i64 0, .int .i64 0] 119) := ⟨_, rfl⟩
 obtain ⟨W4, hW4⟩ : ∃ W4, W4 = W3.alloc (.cells #[.slice none 0 0, .slice none 0 0, .slice none 0 0, .int .i64 0, .int .i64 0, .int .i64 0] 25) := ⟨_, rfl⟩
 have hb3 : Below w2.heap.size w2 W3 := by rw [hW3]; exact (Below.refl _ w2).alloc (Nat.le_refl _) _
 have hb4 : Below W3.heap.size W3 W4 := by rw [hW4]; exact (Below.refl _ W3).alloc (Nat.le_refl _) _
 have hz3 : W3.heap.size = w2.heap.size + 1 := by rw [hW3, World.size_alloc]
 obtain ⟨p, hp⟩ : ∃ p, p = w2.heap.size := ⟨_, rfl⟩
 obtain ⟨q, hq⟩ : ∃ q, q = w2.heap.size + 1 := ⟨_, rfl⟩
 have hRd : RdX W3 p l s.length ⟨0, 0, 0⟩ (.slice tva l.length tcap) :=
  ⟨(HTK.out.below hb3).mono fun k hk _ => by rw [hp]; exact hk.2, by rw [hp, hW3, ← bs_len]; exact alloc_new w2 _, Nat.zero_le _, hll⟩
 have HP4 := hid (show PrX W3 W4 w.heap.size p l s.length ⟨0, 0, 0⟩ (.slice tva l.length tcap) q [] [] [] (.slice none 0 0) (.slice none 0 0) (.slice none 0 0) 0 0 0 from
  ⟨⟨hRd.below hb4, Tch.of_below hb4 _, by rw [hq, ← hz3, hW4]; exact alloc_new W3 _, by rw [hq, hz3]; exact Nat.le_refl _, by rw [hp, hz3]; omega⟩,
   ((Below.step hb3 hb4).block _ (Array.getElem?_eq_some_iff.1 HZ2.out).1).trans HZ2.out, by rw [hp]; omega, SlIn.nil _ _ _ _, SlIn.nil _ _ _ _, SlIn.nil _ _ _ _⟩)
 have HB3 := hid (Below.step HB2.out hb3)
 have HBO := hid (show ∀ X, Tch (fun b => b = p) W3 X → Below w.heap.size w X from fun X hX => HB3.out.trans (hX.below HB3.out.size (fun k e => by have e' : k = p := e; rw [hp] at e'; omega)))
 have hdp : w.heap.size < p := by rw [hp]; omega
 have hpq : p < q := by rw [hp, hq]; omega
 go_upto_region 6 with (fail)
 rw [← hW3, ← hW4]
 rw [← hq, ← hp]
 clear hW3 hW4 hz3 hp hq hb3 hb4 hRd hw12 hw2
 have C := hid (rrule_any10 [] (.slice none 0 0) W4 p l s.length ⟨0, 0, 0⟩ (.slice tva l.length tcap) HP4.out.bx.rd HT4.out (SlIn.nil _ _ _ _) (by simp))
 have HST := hid (Rw.RuleI.step HL.out HBN.out (Rw.RuleI.start s l) rfl (.inl rfl))
 obtain ⟨r1, hr1⟩ : ∃ r, r = Rw.RS.rule l s.length [] ⟨0, 0, 0⟩ := ⟨_, rfl⟩
 rw [← hr1] at C HST
 obtain ⟨d1, R1⟩ := r1
 simp only [List.nil_append] at HST
 clear hr1
 go_wp2_with fail
 refine (C.out).mono ?_
 rintro en w5 ⟨v5, rfl, ho5, hr5, ht5⟩
 simp only [List.nil_append] at ho5
 have hP5 := HP4.out.call hr5 ht5
 have hI5 := HP4.out.own ho5 rfl (fun _ _ => rfl)
 obtain ⟨va5, vc5, rfl⟩ := ownsRow_slice ho5
 have b0 := hP5.bx.cell 0 _ rfl
 have bf := hP5.bx.frozen 0
 have bl := hP5.bx.lt
 obtain ⟨W6, hW6⟩ : ∃ W6, W6 = w5.setCell ⟨q, 0, none⟩ (.slice va5 1 vc5) := ⟨_, rfl⟩
 have HP6 := hid (show PrX W3 W6 w.heap.size p l s.length R1 (.slice tva l.length tcap) q [d1] [] [] (.slice va5 [d1].length vc5) (.slice none 0 0) (.slice none 0 0) 0 0 0 by rw [hW6]; exact hP5.set 0 _ rfl hI5 hP5.fd hP5.fe)
 clear ho5 hr5 ht5 hP5 hI5 C HP4
 go_upto_region 7 with (fail)
 first | rw [← hW6] | (show Code.wp _ _ _ _ _; rw [← hW6])
 clear hW6 b0 bf bl
 go_loopw [] (fun wr => ∃ (R : Rw.RS) (rs : List Rw.Rule) (rv : Value), Hid (PrX W3 wr w.heap.size p l s.length R (.slice tva l.length tcap) q rs [] [] rv (.slice none 0 0) (.slice none 0 0) 0 0 0) ∧ Hid (Rw.RuleI s l R rs) ∧ Hid (rs ≠ [])) (fun wr => leftX l.length wr p)
 case atStart => exact ⟨R1, [d1], _, HP6, HST.out.1, (show [d1] ≠ [] by simp)⟩
 case round =>
  clear HP6 HST
  obtain ⟨R, rs, rv, HP, HI, HNE⟩ := hrel
  have HN := hid (rnext_any10 Rw.tRule wr p l s.length R _ HP.out.bx.rd)
  obtain ⟨nb, hnb⟩ : ∃ b, b = R.next l Rw.tRule := ⟨_, rfl⟩
  rw [← hnb] at HN
  have HNB := hid hnb
  clear hnb
  go_wp2_with fail
  refine (HN.out).mono ?_
  rintro en w7 ⟨rfl, hb7⟩
  have HP7 := hid (HP.out.below hb7)
  clear hb7 HN
  cases nb with
  | true =>
   have h0 : R.er = 0 := by
    have := HNB.out
    unfold Rw.RS.next at this
    simp only [Bool.true_eq, Bool.and_eq_true, decide_eq_true_eq] at this
    exact this.1
   have hw : Rw.isW Rw.tRule (l.drop R.k) = true := by
    have := HNB.out
    unfold Rw.RS.next at this
    simp only [Bool.true_eq, Bool.and_eq_true, decide_eq_true_eq] at this
    exact this.2
   have HST := hid (Rw.RuleI.step HL.out HBN.out HI.out h0 (.inr hw))
   have hr80 : rs.length ≤ 80 := (HI.out.2 h0).2.2.2
   have HPQ := hid HP7.out.pq
   have C := hid (rrule_any10 rs rv w7 p l s.length R _ HP7.out.bx.rd HT4.out (HP7.out.fr.mono fun k hk _ e => by have h1 := HPQ.out; have h2 : q < k := hk; omega) hr80)
   obtain ⟨r1, hr1⟩ : ∃ r, r = Rw.RS.rule l s.length rs R := ⟨_, rfl⟩
   rw [← hr1] at C HST
   obtain ⟨d2, R2⟩ := r1
   have H0 := hid h0
   clear hr1 h0 hw
   have b0 := HP7.out.bx.cell 0 _ rfl
   have bl := HP7.out.bx.lt
   obtain ⟨ra, rc, rfl⟩ := HP7.out.fr.slice
   go_wp2_with fail
   refine (C.out).mono ?_
   rintro en w8 ⟨v8, rfl, ho8, hr8, ht8⟩
   have hP8 := HP7.out.call hr8 ht8
   have hI8 := HP7.out.own (L := rs ++ [d2]) ho8 (by rw [List.length_append]; rfl) (fun _ _ => rfl)
   obtain ⟨va8, vc8, rfl⟩ := ownsRow_slice ho8
   clear b0 bl
   have b0 := hP8.bx.cell 0 _ rfl
   have bf := hP8.bx.frozen 0
   have bl := hP8.bx.lt
   obtain ⟨W9, hW9⟩ : ∃ W9, W9 = w8.setCell ⟨q, 0, none⟩ (.slice va8 (rs.length + 1) vc8) := ⟨_, rfl⟩
   have HP9 := hid (show PrX W3 W9 w.heap.size p l s.length R2 (.slice tva l.length tcap) q (rs ++ [d2]) [] [] (.slice va8 (rs.length + 1) vc8) (.slice none 0 0) (.slice none 0 0) 0 0 0 by rw [hW9]; exact hP8.set 0 _ rfl hI8 hP8.fd hP8.fe)
   have HLS := hid (left_less HP.out.bx.rd HP9.out.bx.rd H0.out HST.out.2)
   clear ho8 hr8 ht8 hP8 hI8 C
   go_wp2_with fail
   first | rw [← hW9] | skip
   clear hW9
   go_roundw
   case rel => exact ⟨R2, rs ++ [d2], _, HP9, HST.out.1, (show rs ++ [d2] ≠ [] by simp)⟩
   case measure => exact HLS.out
  | false =>
   have HI2 := hid (HI.out.to HNB.out.symm HNE.out)
   clear HI HP
   go_wp2_with fail
   go_loopw [] (fun wx => ∃ (R : Rw.RS) (ds : List Rw.Drop) (dv : Value), Hid (PrX W3 wx w.heap.size p l s.length R (.slice tva l.length tcap) q rs ds [] rv dv (.slice none 0 0) 0 0 0) ∧ Hid (Rw.LoopI s l R (Rw.K2 rs s.length) Rw.tDrop 12 ds)) (fun wx => leftX l.length wx p)
   case atStart => exact ⟨_, [], _, HP7, HI2.out.1⟩
   case round =>
    clear HP7 HI2 HNB
    rename World => wr
    rename Rw.RS => Rz
    obtain ⟨R, ds, dv, HP, HI⟩ := hrel
    have HN := hid (rnext_any10 Rw.tDrop wr p l s.length R _ HP.out.bx.rd)
    obtain ⟨nb, hnb⟩ : ∃ b, b = R.next l Rw.tDrop := ⟨_, rfl⟩
    rw [← hnb] at HN
    have HNB := hid hnb
    clear hnb
    go_wp2_with fail
    refine (HN.out).mono ?_
    rintro en w7 ⟨rfl, hb7⟩
    have HP7 := hid (HP.out.below hb7)
    clear hb7 HN
    cases nb with
    | true =>
     have HST := hid (Rw.LoopI.step HL.out HBN.out (fun _ => rfl) HI.out HNB.out.symm)
     have HPQ := hid HP7.out.pq
     have HDW := hid (HI.out.2 HST.out.1).2
     have C := hid (rdrop_any10 Rw.tDrop 12 ds dv w7 p l s.length R _ HP7.out.bx.rd HT4.out (HP7.out.fd.mono fun k hk _ e => by have h1 := HPQ.out; have h2 : q < k := hk; omega) HDW.out)
     obtain ⟨r1, hr1⟩ : ∃ r, r = Rw.RS.drop l s.length Rw.tDrop 12 ds R := ⟨_, rfl⟩
     rw [← hr1] at C HST
     obtain ⟨d2, R2⟩ := r1
     clear hr1
     have b0 := HP7.out.bx.cell 1 _ rfl
     have bl := HP7.out.bx.lt
     obtain ⟨ra, rc, rfl⟩ := HP7.out.fd.slice
     go_wp2_with fail
     refine (C.out).mono ?_
     rintro en w8 ⟨v8, rfl, ho8, hr8, ht8⟩
     have hP8 := HP7.out.call hr8 ht8
     have hI8 := HP7.out.own (L := ds ++ [d2]) ho8 (by rw [List.length_append]; rfl) (fun _ _ => rfl)
     obtain ⟨va8, vc8, rfl⟩ := ownsRow_slice ho8
     clear b0 bl
     have b0 := hP8.bx.cell 1 _ rfl
     have bf := hP8.bx.frozen 1
     have bl := hP8.bx.lt
     obtain ⟨W9, hW9⟩ : ∃ W9, W9 = w8.setCell ⟨q, 1, none⟩ (.slice va8 (ds.length + 1) vc8) := ⟨_, rfl⟩
     have HP9 := hid (show PrX W3 W9 w.heap.size p l s.length R2 (.slice tva l.length tcap) q rs (ds ++ [d2]) [] rv (.slice va8 (ds.length + 1) vc8) (.slice none 0 0) 0 0 0 by rw [hW9]; exact hP8.set 1 _ rfl hP8.fr hI8 hP8.fe)
     have HLS := hid (left_less HP.out.bx.rd HP9.out.bx.rd HST.out.1 HST.out.2.2)
     have HSI := hid HST.out.2.1
     clear ho8 hr8 ht8 hP8 hI8 C
     go_wp2_with fail
     first | rw [← hW9] | skip
     clear hW9
     go_roundw
     case rel => exact ⟨R2, ds ++ [d2], _, HP9, HSI⟩
     case measure => exact HLS.out
    | false =>
     have HI3 := hid (HI.out.to2 HNB.out.symm)
     clear HI HP
     go_wp2_with fail
     go_loopw [] (fun wx => ∃ (R : Rw.RS) (es : List Rw.Drop) (ev : Value), Hid (PrX W3 wx w.heap.size p l s.length R (.slice tva l.length tcap) q rs ds es rv dv ev 0 0 0) ∧ Hid (Rw.LoopI s l R (Rw.K3 rs ds s.length) Rw.tEnd 4 es)) (fun wx => leftX l.length wx p)
     case atStart => exact ⟨_, [], _, HP7, HI3.out⟩
     case round =>
      clear HP7 HI3 HNB
      rename World => wr
      rename Rw.RS => Rz
      obtain ⟨R, es, ev, HP, HI⟩ := hrel
      have HN := hid (rnext_any10 Rw.tEnd wr p l s.length R _ HP.out.bx.rd)
      obtain ⟨nb, hnb⟩ : ∃ b, b = R.next l Rw.tEnd := ⟨_, rfl⟩
      rw [← hnb] at HN
      have HNB := hid hnb
      clear hnb
      go_wp2_with fail
      refine (HN.out).mono ?_
      rintro en w7 ⟨rfl, hb7⟩
      have HP7 := hid (HP.out.below hb7)
      clear hb7 HN
      cases nb with
      | true =>
       have HST := hid (Rw.LoopI.step HL.out HBN.out (fun _ => rfl) HI.out HNB.out.symm)
       have HPQ := hid HP7.out.pq
       have HDW := hid (HI.out.2 HST.out.1).2
       have C := hid (rdrop_any10 Rw.tEnd 4 es ev w7 p l s.length R _ HP7.out.bx.rd HT4.out (HP7.out.fe.mono fun k hk _ e => by have h1 := HPQ.out; have h2 : q < k := hk; omega) HDW.out)
       obtain ⟨r1, hr1⟩ : ∃ r, r = Rw.RS.drop l s.length Rw.tEnd 4 es R := ⟨_, rfl⟩
       rw [← hr1] at C HST
       obtain ⟨d2, R2⟩ := r1
       clear hr1
       have b0 := HP7.out.bx.cell 2 _ rfl
       have bl := HP7.out.bx.lt
       obtain ⟨ra, rc, rfl⟩ := HP7.out.fe.slice
       go_wp2_with fail
       refine (C.out).mono ?_
       rintro en w8 ⟨v8, rfl, ho8, hr8, ht8⟩
       have hP8 := HP7.out.call hr8 ht8
       have hI8 := HP7.out.own (L := es ++ [d2]) ho8 (by rw [List.length_append]; rfl) (fun _ _ => rfl)
       obtain ⟨va8, vc8, rfl⟩ := ownsRow_slice ho8
       clear b0 bl
       have b0 := hP8.bx.cell 2 _ rfl
       have bf := hP8.bx.frozen 2
       have bl := hP8.bx.lt
       obtain ⟨W9, hW9⟩ : ∃ W9, W9 = w8.setCell ⟨q, 2, none⟩ (.slice va8 (es.length + 1) vc8) := ⟨_, rfl⟩
       have HP9 := hid (show PrX W3 W9 w.heap.size p l s.length R2 (.slice tva l.length tcap) q rs ds (es ++ [d2]) rv dv (.slice va8 (es.length + 1) vc8) 0 0 0 by rw [hW9]; exact hP8.set 2 _ rfl hP8.fr hP8.fd hI8)
       have HLS := hid (left_less HP.out.bx.rd HP9.out.bx.rd HST.out.1 HST.out.2.2)
       have HSI := hid HST.out.2.1
       clear ho8 hr8 ht8 hP8 hI8 C
       go_wp2_with fail
       first | rw [← hW9] | skip
       clear hW9
       go_roundw
       case rel => exact ⟨R2, es ++ [d2], _, HP9, HSI⟩
       case measure => exact HLS.out
      | false =>
       have HLI := hid (HI.out.to3 HNB.out.symm)
       have HLS := hid (HLI.out.step HL.out)
       obtain ⟨q0, hq0⟩ : ∃ q, q = R.tok l s.length 1 Rw.tCosts := ⟨_, rfl⟩
       obtain ⟨q1, hq1⟩ : ∃ q, q = q0.2.tokC l s.length 2 [] (fun t => 1000 < t.2.n) 10 := ⟨_, rfl⟩
       obtain ⟨q2, hq2⟩ : ∃ q, q = q1.2.tokC l s.length 2 [] (fun t => 1000 < t.2.n) 10 := ⟨_, rfl⟩
       obtain ⟨q3, hq3⟩ : ∃ q, q = q2.2.tokC l s.length 2 [] (fun t => 1000 < t.2.n) 10 := ⟨_, rfl⟩
       obtain ⟨q4, hq4⟩ : ∃ q, q = q3.2.tok l s.length 4 [59] := ⟨_, rfl⟩
       rw [show Rw.RS.last l s.length R = (((q1.1.2.n : Int), (q2.1.2.n : Int), (q3.1.2.n : Int)), q4.2) by rw [hq4, hq3, hq2, hq1, hq0]; rfl] at HLS
       simp only at HLS
       have C0 := hid (rtok_lit 1 1 ⟨#[99, 111, 115, 116, 115]⟩ Rw.tCosts rfl rfl w7 p l s.length R _ HP7.out.bx.rd)
       rw [← hq0] at C0
       have HQ1 := hid hq1
       have HQ2 := hid hq2
       have HQ3 := hid hq3
       have HQ4 := hid hq4
       obtain ⟨ra, rc, rfl⟩ := HP7.out.fr.slice
       obtain ⟨da, dc, rfl⟩ := HP7.out.fd.slice
       obtain ⟨ea, ec, rfl⟩ := HP7.out.fe.slice
       obtain ⟨rv, hrv⟩ : ∃ v, v = Value.slice ra rs.length rc := ⟨_, rfl⟩
       obtain ⟨dv, hdv⟩ : ∃ v, v = Value.slice da ds.length dc := ⟨_, rfl⟩
       obtain ⟨ev, hev⟩ : ∃ v, v = Value.slice ea es.length ec := ⟨_, rfl⟩
       rw [← hrv, ← hdv, ← hev] at HP7
       have HRV := hid hrv
       have HDV := hid hdv
       have HEV := hid hev
       clear hq0 hq1 hq2 hq3 hq4 hrv hdv hev HLI HI HP HNB
       go_wp2_with fail
       refine (C0.out).mono ?_
       rintro en w8 ⟨rfl, hr, ht⟩
       have HP8 := hid (HP7.out.call hr ht)
       clear hr ht C0 HP7
       have C1 := hid (rnumber_any10 w8 p l s.length q0.2 _ HP8.out.bx.rd)
       rw [← HQ1.out] at C1
       go_wp2_with fail
       refine (C1.out).mono ?_
       rintro en wq ⟨rfl, hr, ht⟩
       have hP := HP8.out.call hr ht
       have b0 := hP.bx.cell 3 _ rfl
       have bf := hP.bx.frozen 3
       have bl := hP.bx.lt
       obtain ⟨W10, hW⟩ : ∃ X, X = wq.setCell ⟨q, 3, none⟩ (.int .i64 q1.1.2.n) := ⟨_, rfl⟩
       have HP10 := hid (show PrX W3 W10 w.heap.size p l s.length q1.2 (.slice tva l.length tcap) q rs ds es rv dv ev q1.1.2.n 0 0 by rw [hW]; exact hP.set 3 _ rfl hP.fr hP.fd hP.fe)
       clear hr ht hP C1 HP8
       go_upto_region 15 with (fail)
       rw [← hW]
       clear hW b0 bf bl
       have C2 := hid (rnumber_any10 W10 p l s.length q1.2 _ HP10.out.bx.rd)
       rw [← HQ2.out] at C2
       go_wp2_with fail
       refine (C2.out).mono ?_
       rintro en wq ⟨rfl, hr, ht⟩
       have hP := HP10.out.call hr ht
       have b0 := hP.bx.cell 4 _ rfl
       have bf := hP.bx.frozen 4
       have bl := hP.bx.lt
       obtain ⟨W12, hW⟩ : ∃ X, X = wq.setCell ⟨q, 4, none⟩ (.int .i64 q2.1.2.n) := ⟨_, rfl⟩
       have HP12 := hid (show PrX W3 W12 w.heap.size p l s.length q2.2 (.slice tva l.length tcap) q rs ds es rv dv ev q1.1.2.n q2.1.2.n 0 by rw [hW]; exact hP.set 4 _ rfl hP.fr hP.fd hP.fe)
       clear hr ht hP C2 HP10
       go_upto_region 16 with (fail)
       rw [← hW]
       clear hW b0 bf bl
       have C3 := hid (rnumber_any10 W12 p l s.length q2.2 _ HP12.out.bx.rd)
       rw [← HQ3.out] at C3
       go_wp2_with fail
       refine (C3.out).mono ?_
       rintro en wq ⟨rfl, hr, ht⟩
       have hP := HP12.out.call hr ht
       have b0 := hP.bx.cell 5 _ rfl
       have bf := hP.bx.frozen 5
       have bl := hP.bx.lt
       obtain ⟨W14, hW⟩ : ∃ X, X = wq.setCell ⟨q, 5, none⟩ (.int .i64 q3.1.2.n) := ⟨_, rfl⟩
       have HP14 := hid (show PrX W3 W14 w.heap.size p l s.length q3.2 (.slice tva l.length tcap) q rs ds es rv dv ev q1.1.2.n q2.1.2.n q3.1.2.n by rw [hW]; exact hP.set 5 _ rfl hP.fr hP.fd hP.fe)
       clear hr ht hP C3 HP12
       go_upto_region 17 with (fail)
       rw [← hW]
       clear hW b0 bf bl
       have C4 := hid (rtok_lit 4 4 ⟨#[59]⟩ [59] rfl rfl W14 p l s.length q3.2 _ HP14.out.bx.rd)
       rw [← HQ4.out] at C4
       go_wp2_with fail
       refine (C4.out).mono ?_
       rintro en w15 ⟨rfl, hr, ht⟩
       have HP15 := hid (HP14.out.call hr ht)
       clear hr ht C4 HP14
       obtain ⟨R4, hR4⟩ : ∃ R, R = q4.2 := ⟨_, rfl⟩
       rw [← hR4] at HP15 HLS
       clear hR4
       have hpr := HP15.out.bx.rd.lt
       obtain ⟨c0, c1, c2, c3, c4, cf⟩ := HP15.out.bx.rd.cells
       have HKL := hid HP15.out.bx.rd.k
       have HK4 := hid (HLS.out.2)
       go_upto_region 18 with (fail)
       go_cut [63, 64, 65, 66, 67, 68, 69, 70, 71, 72, 73, 74, 75, 76, 77, 78, 79] from 80 (fun v63 v64 v65 v66 v67 v68 v69 v70 v71 v72 v73 v74 v75 v76 v77 v78 v79 wx => v79 = .bool (decide (R4.er = 0) && decide (R4.k < l.length)) ∧ Hid (PrX W3 wx w.heap.size p l s.length R4 (.slice tva l.length tcap) q rs ds es rv dv ev q1.1.2.n q2.1.2.n q3.1.2.n))
       case first =>
        by_cases h0 : R4.er = 0
        ·have d0 : (R4.er == 0) = true := by rw [h0]; rfl
         obtain ⟨fk, hfk⟩ : ∃ b, b = decide (R4.k < l.length) := ⟨_, rfl⟩
         have d1 : decide ((R4.k : Int) < (l.length : Int)) = fk := by rw [hfk, decide_eq_decide]; omega
         have HFK := hid (show (decide (R4.er = 0) && decide (R4.k < l.length)) = fk by rw [decide_eq_true h0, Bool.true_and, hfk])
         have HFK2 := hid (show decide (R4.k < l.length) = (decide (R4.er = 0) && decide (R4.k < l.length)) by rw [decide_eq_true h0, Bool.true_and])
         clear h0 hfk
         cases fk with
         | true =>
          go_quiet (fail)
          go_wp2_with fail
          go_meet
          case rel => first | exact ⟨congrArg Value.bool HFK2.out, HP15.out.below (Below.drewQ _ _)⟩ | exact ⟨congrArg Value.bool HFK.out.symm, HP15.out.below (Below.drewQ _ _)⟩
         | false =>
          go_quiet (fail)
          go_wp2_with fail
          go_meet
          case rel => first | exact ⟨congrArg Value.bool HFK2.out, HP15.out.below (Below.drewQ _ _)⟩ | exact ⟨congrArg Value.bool HFK.out.symm, HP15.out.below (Below.drewQ _ _)⟩
        ·have d0 : (R4.er == 0) = false := by rw [beq_eq_false_iff_ne]; exact h0
         have HFK := hid (show (decide (R4.er = 0) && decide (R4.k < l.length)) = false by rw [decide_eq_false h0, Bool.false_and])
         clear h0
         go_quiet (fail)
         go_wp2_with fail
         go_meet
         case rel => exact ⟨congrArg Value.bool HFK.out.symm, HP15.out.below (Below.drewQ _ _)⟩
       case rest =>
       rename World => w16
       obtain ⟨rfl, HP16⟩ := hcut
       clear HP15 c0 c1 c2 c3 c4 cf hpr
       go_step
       go_cut [] from 79 (fun wx => ∃ R5 : Rw.RS, Hid (PrX W3 wx w.heap.size p l s.length R5 (.slice tva l.length tcap) q rs ds es rv dv ev q1.1.2.n q2.1.2.n q3.1.2.n) ∧ Hid (Rw.Dead s R5 ∧ (R5.er = 0 → Rw.parse s = (⟨rs, ds, es, q1.1.2.n, q2.1.2.n, q3.1.2.n⟩, 0, 0))))
       case first =>
        by_cases hc : R4.er = 0 ∧ R4.k < l.length
        ·obtain ⟨h0, hk⟩ := hc
         obtain ⟨z, hz⟩ : ∃ z, l[R4.k]? = some z := ⟨_, List.getElem?_eq_getElem hk⟩
         have HE := hid (HLS.out.1.more HL.out h0 hz)
         have HZZ := hid hz
         have hk0 : (0 : Int) ≤ (R4.k : Int) := by omega
         have hk1 : (R4.k : Int) < (l.length : Int) := by omega
         rw [decide_eq_true h0, decide_eq_true hk, Bool.true_and]
         clear h0 hz
         obtain ⟨c0, c1, c2, c3, c4, cf⟩ := HP16.out.bx.rd.cells
         have hpr := HP16.out.bx.rd.lt
         have f3 := cf 3
         obtain ⟨W17, hW17⟩ : ∃ X, X = w16.setCell ⟨p, 3, none⟩ (.int .i64 5) := ⟨_, rfl⟩
         have hT17 : Tch (fun b => b = p) w16 W17 := by rw [hW17]; exact (Tch.refl (fun b => b = p) w16).setCell (a := ⟨p, 3, none⟩) (.inl rfl) _
         have HP17 := hid (HP16.out.call (HP16.out.bx.rd.own (R' := ⟨R4.k, 5, R4.at_⟩) hT17 (by rw [hW17]; exact blk_setP HP16.out.bx.rd.box 3 _) HKL.out) hT17)
         clear hT17
         go_upto_region 20 with (fail)
         rw [← hW17]
         clear hW17 c0 c1 c2 c3 c4 cf hpr f3 HP16
         obtain ⟨c0, c1, c2, c3, c4, cf⟩ := HP17.out.bx.rd.cells
         have hpr := HP17.out.bx.rd.lt
         have f4 := cf 4
         obtain ⟨g, o, rfl, hg, -, e1, -, -⟩ := tokx_cells HP17.out.bx.rd.toks.slOf HZZ.out (Below.refl _ _)
         clear cf c2 c3
         go_region
         go_wp2_with fail
         go_meet
         case rel =>
          refine ⟨⟨R4.k, 5, z.1⟩, ?_, fun _ => HE.out, fun h => absurd h (show (5 : Int) ≠ 0 by decide)⟩
          have hT18 : Tch (fun b => b = p) W17 (W17.setCell ⟨p, 4, none⟩ (.int .i64 z.1)) := (Tch.refl (fun b => b = p) W17).setCell (a := ⟨p, 4, none⟩) (.inl rfl) _
          exact (HP17.out.call (HP17.out.bx.rd.own (R' := ⟨R4.k, 5, z.1⟩) hT18 (blk_setP HP17.out.bx.rd.box 4 _) HKL.out) hT18).below (Below.refl _ _).drew
        ·have HF := hid (show Rw.Dead s R4 ∧ (R4.er = 0 → Rw.parse s = (⟨rs, ds, es, q1.1.2.n, q2.1.2.n, q3.1.2.n⟩, 0, 0)) from ⟨HLS.out.1.1, fun h0 => HLS.out.1.done HL.out h0 (by omega)⟩)
         rw [show (decide (R4.er = 0) && decide (R4.k < l.length)) = false by rw [Bool.and_eq_false_iff, decide_eq_false_iff_not, decide_eq_false_iff_not]; omega]
         clear hc
         go_wp2_with fail
         go_meet
         case rel => exact ⟨R4, HP16, HF⟩
       case rest =>
       rename World => w17
       obtain ⟨R5, HP17, HF⟩ := hcut
       clear HP16 HLS HK4
       obtain ⟨c0, c1, c2, c3, c4, cf⟩ := HP17.out.bx.rd.cells
       have hpr := HP17.out.bx.rd.lt
       by_cases h0 : R5.er = 0
       rotate_left
       ·have d1 : (R5.er != 0) = true := by rw [bne_iff_ne]; exact h0
        have HE := hid (HF.out.1 h0)
        clear h0
        have z0 : w17.cell? ⟨w.heap.size, 0, none⟩ = some (.slice none 0 0) := by simp [World.cell?, HP17.out.z]
        have z1 : w17.cell? ⟨w.heap.size, 1, none⟩ = some (.slice none 0 0) := by simp [World.cell?, HP17.out.z]
        have z2 : w17.cell? ⟨w.heap.size, 2, none⟩ = some (.slice none 0 0) := by simp [World.cell?, HP17.out.z]
        have z3 : w17.cell? ⟨w.heap.size, 3, none⟩ = some (.int .i64 0) := by simp [World.cell?, HP17.out.z]
        have z4 : w17.cell? ⟨w.heap.size, 4, none⟩ = some (.int .i64 0) := by simp [World.cell?, HP17.out.z]
        have z5 : w17.cell? ⟨w.heap.size, 5, none⟩ = some (.int .i64 0) := by simp [World.cell?, HP17.out.z]
        have zf : ∀ j, w17.frozen? ⟨w.heap.size, j, none⟩ = false := fun j => frozen_of_row w17 _ j _ _ HP17.out.z
        have zl : w.heap.size < w17.heap.size := (Array.getElem?_eq_some_iff.1 HP17.out.z).1
        have m1 : ¬ p = w.heap.size := by omega
        have m2 : ¬ w.heap.size = p := by omega
        clear cf
        go_wp2_with fail
        go_region
        all_goals (go_wp2_with fail)
        refine ⟨rfl, _, results_parseX rfl rfl rfl (blk_setP (blk_setP (blk_setP (blk_setP (blk_setP (blk_setP HP17.out.z 0 _) 1 _) 2 _) 3 _) 4 _) 5 _), ?_⟩
        rw [HE.out]
        have hB := HBO.out _ HP17.out.bx.tch
        exact ⟨_, rfl, fits_none _ (fun _ => True), (hB.trans ((setT_tch w17 w.heap.size (.slice none 0 0) (.slice none 0 0) (.slice none 0 0) 0 0 0).below hB.size (fun k e => by have e' : k = w.heap.size := e; omega))).drew⟩
       have d2 : (R5.er != 0) = false := by rw [h0]; rfl
       have HE := hid (HF.out.2 h0)
       clear h0
       have z0 : w17.cell? ⟨w.heap.size, 0, none⟩ = some (.slice none 0 0) := by simp [World.cell?, HP17.out.z]
       have z1 : w17.cell? ⟨w.heap.size, 1, none⟩ = some (.slice none 0 0) := by simp [World.cell?, HP17.out.z]
       have z2 : w17.cell? ⟨w.heap.size, 2, none⟩ = some (.slice none 0 0) := by simp [World.cell?, HP17.out.z]
       have z3 : w17.cell? ⟨w.heap.size, 3, none⟩ = some (.int .i64 0) := by simp [World.cell?, HP17.out.z]
       have z4 : w17.cell? ⟨w.heap.size, 4, none⟩ = some (.int .i64 0) := by simp [World.cell?, HP17.out.z]
       have z5 : w17.cell? ⟨w.heap.size, 5, none⟩ = some (.int .i64 0) := by simp [World.cell?, HP17.out.z]
       have zf : ∀ j, w17.frozen? ⟨w.heap.size, j, none⟩ = false := fun j => frozen_of_row w17 _ j _ _ HP17.out.z
       have zl : w.heap.size < w17.heap.size := (Array.getElem?_eq_some_iff.1 HP17.out.z).1
       rw [HRV.out, HDV.out, HEV.out] at HP17
       have b0 := HP17.out.bx.cell 0 _ rfl
       have b1 := HP17.out.bx.cell 1 _ rfl
       have b2 := HP17.out.bx.cell 2 _ rfl
       have b3 := HP17.out.bx.cell 3 _ rfl
       have b4 := HP17.out.bx.cell 4 _ rfl
       have b5 := HP17.out.bx.cell 5 _ rfl
       have bl := HP17.out.bx.lt
       have n1 : ¬ w.heap.size = q := by omega
       have n2 : ¬ q = w.heap.size := by omega
       clear cf
       go_wp2_with fail
       refine ⟨rfl, _, results_parseX rfl rfl rfl (blk_setP (blk_setP (blk_setP (blk_setP (blk_setP (blk_setP HP17.out.z 0 _) 1 _) 2 _) 3 _) 4 _) 5 _), ?_⟩
       have hT := setT_tch w17 w.heap.size (.slice ra rs.length rc) (.slice da ds.length dc) (.slice ea es.length ec) q1.1.2.n q2.1.2.n q3.1.2.n
       have hV := HPO.out (by rw [HE.out])
       rw [HE.out] at hV ⊢
       have hB := HBO.out _ HP17.out.bx.tch
       exact ⟨_, rfl, table_at rfl rfl rfl rfl rfl rfl hV (HP17.out.fr.tch hT fun k hk e => by have e' : k = w.heap.size := e; have hk' : q < k := hk; omega) (HP17.out.fd.tch hT fun k hk e => by have e' : k = w.heap.size := e; have hk' : q < k := hk; omega) (HP17.out.fe.tch hT fun k hk e => by have e' : k = w.heap.size := e; have hk' : q < k := hk; omega),
        hB.trans (hT.below hB.size (fun k e => by have e' : k = w.heap.size := e; omega))⟩

end Go.Proofs.YtdchjacccmajcaaGreatDoor
