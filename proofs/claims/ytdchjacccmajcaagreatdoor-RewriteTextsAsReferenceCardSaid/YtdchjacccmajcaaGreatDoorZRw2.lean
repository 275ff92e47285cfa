/-
 rewrite.Parse. Conditions: lengths; the library's tables.
-/
import Derived.Test.YtdchjacccmajcaaGreatDoorZRw1
import Derived.Test.YtdchjacccmajcaaGreatDoorZRv5
import Derived.Test.YtdchjacccmajcaaGreatDoorZMLexD
namespace Go.Proofs.YtdchjacccmajcaaGreatDoor
open Go.RowKit Go.Maps Go.Lib

theorem fits_none (w : World) (Q : Nat → Prop) : TableAt w Rw.noTable (.agg #[.slice none 0 0, .slice none 0 0, .slice none 0 0, .int .i64 0, .int .i64 0, .int .i64 0]) := by
 have h1 : SlOf w (.slice none 0 0) 4 ruleCells [] := (SlIn.nil w Q 4 ruleCells).slOf
 have h2 : SlOf w (.slice none 0 0) 3 dropCells [] := (SlIn.nil w Q 3 dropCells).slOf
 exact ⟨⟨_, _, _, rfl, h1, h2, h2⟩, by simp [Rw.noTable], by simp [Rw.noTable], by simp [Rw.noTable], by simp [Rw.noTable]⟩
/-- what Parse ends in -/
def ParseT (w : World) (r : Rw.Table × Int × Int) (en : Ending) (w' : World) : Prop :=
 ∃ v, en = .returned (.tuple #[v, .int .i64 r.2.1, .int .i64 r.2.2]) ∧ TableAt w' r.1 v ∧ Below w.heap.size w w'

theorem toks_inP {w : World} {B : Nat} {v : Value} {l : List Fa.T} (h : w.ownsRow B 116 4 v l.length (tokCells l)) : SlIn w v (fun b => B ≤ b ∧ b < w.heap.size) 4 tkcP l := by
 have h1 : w.ownsRow B 116 4 v l.length (l.flatMap tkcP) := h
 exact (SlIn.own h1 fun x _ => rfl).mono fun k hk _ => h1.lt k hk

set_option maxRecDepth 100000 in
set_option maxHeartbeats 8000000 in
theorem parse_any10 (s : List UInt8) (w : World) (hs : s.length ≤ 20000) (hTb : Tabs w) : Calls Tryz.prog 32 #[.string (bs s)] w (ParseT w (Rw.parse s)) := by
 have HTB := hid hTb
 obtain ⟨W1, hW1⟩ : ∃ W1, W1 = ((w.alloc (.cells #[.slice none 0 0, .slice none 0 0, .slice none 0 0, .int .i64 0, .int .i64 0, .int .i64 0] 25)).alloc (.cells #[.int .i64 0] 36)).alloc (.cells #[.int .i64 0] 3) := ⟨_, rfl⟩
 have hz1' : W1.heap.size = w.heap.size + 3 := by rw [hW1]; simp
 have hb1 : Below w.heap.size w W1 := by rw [hW1]; exact (((Below.refl _ w).alloc (Nat.le_refl _) _).alloc (by simp) _).alloc (by simp; omega) _
 have hR1 : ResT W1 w.heap.size (w.heap.size + 1) (w.heap.size + 1 + 1) (.slice none 0 0) (.slice none 0 0) (.slice none 0 0) 0 0 0 (.int .i64 0) (.int .i64 0) := by
  have z1 := alloc_new w (.cells #[.slice none 0 0, .slice none 0 0, .slice none 0 0, .int .i64 0, .int .i64 0, .int .i64 0] 25)
  have z2 := alloc_new (w.alloc (.cells #[.slice none 0 0, .slice none 0 0, .slice none 0 0, .int .i64 0, .int .i64 0, .int .i64 0] 25)) (.cells #[.int .i64 0] 36)
  have z3 := alloc_new ((w.alloc (.cells #[.slice none 0 0, .slice none 0 0, .slice none 0 0, .int .i64 0, .int .i64 0, .int .i64 0] 25)).alloc (.cells #[.int .i64 0] 36)) (.cells #[.int .i64 0] 3)
  rw [World.size_alloc] at z2
  rw [World.size_alloc, World.size_alloc] at z3
  have b2 : Below (w.heap.size + 1) (w.alloc (.cells #[.slice none 0 0, .slice none 0 0, .slice none 0 0, .int .i64 0, .int .i64 0, .int .i64 0] 25)) ((w.alloc (.cells #[.slice none 0 0, .slice none 0 0, .slice none 0 0, .int .i64 0, .int .i64 0, .int .i64 0] 25)).alloc (.cells #[.int .i64 0] 36)) := (Below.refl _ _).alloc (by rw [World.size_alloc]; omega) _
  have b3 : Below (w.heap.size + 2) ((w.alloc (.cells #[.slice none 0 0, .slice none 0 0, .slice none 0 0, .int .i64 0, .int .i64 0, .int .i64 0] 25)).alloc (.cells #[.int .i64 0] 36)) W1 := by rw [hW1]; exact (Below.refl _ _).alloc (by rw [World.size_alloc, World.size_alloc]; omega) _
  exact ⟨(b3.block _ (by omega)).trans ((b2.block _ (by omega)).trans z1), (b3.block _ (by omega)).trans z2, by rw [hW1]; exact z3, by omega, by omega⟩
 have HLX := hid (lex_any (bs s) W1 (by rw [bs_len]; unfold maxLen; omega))
 rw [show (bs s).data.toList = s from rfl] at HLX
 rcases hl : Lx.lex s with ⟨l, x, y⟩
 rw [hl] at HLX
 have HL := hid hl
 have HB1 := hid hb1
 have HR1 := hid hR1
 obtain ⟨hll, ht4⟩ := Lx.lex_all hl
 have HT4 := hid ht4
 have HBN := hid (show Rw.Bnd s.length l from (Lx.lex_out hs hl).1)
 have HXY := hid (Lx.lex_out hs hl).2
 have hsl : s.length ≤ 20000 := hs
 clear hl hb1 hR1 hs ht4 hTb
 go_enter_defers Tryz.func32, Tryz.ntmps32
 go_wp2_with fail
 rw [← hW1]
 clear hW1
 refine (HLX.out).mono ?_
 rintro en w2 ⟨v, rfl, ho2, hb2⟩
 obtain ⟨tva, tcap, rfl⟩ := ownsRow_slice ho2
 have hR2 := HR1.out.below hb2
 have HTK := hid (toks_inP ho2)
 have HB2 := hid (Below.step HB1.out hb2)
 have c1 := hR2.e.cell
 have cf1 := hR2.e.frozen
 have c2 := hR2.a.cell
 have cf2 := hR2.a.frozen
 obtain ⟨cz0, cz1, cz2⟩ := hR2.lt
 have HR2 := hid hR2
 have n01 : ¬ w.heap.size + 1 = w.heap.size + 1 + 1 := by omega
 have n10 : ¬ w.heap.size + 1 + 1 = w.heap.size + 1 := by omega
 clear hR2 ho2 hb2
 obtain ⟨W3, hW3⟩ : ∃ W3, W3 = (w2.setCell ⟨w.heap.size + 1, 0, none⟩ (.int .i64 x)).setCell ⟨w.heap.size + 1 + 1, 0, none⟩ (.int .i64 y) := ⟨_, rfl⟩
 have HR3 := hid (show ResT W3 w.heap.size (w.heap.size + 1) (w.heap.size + 1 + 1) (.slice none 0 0) (.slice none 0 0) (.slice none 0 0) 0 0 0 (.int .i64 x) (.int .i64 y) by rw [hW3]; exact (HR2.out.setE _).setA _)
 have HT3 := hid (show Tch (res3 w.heap.size (w.heap.size + 1) (w.heap.size + 1 + 1)) w2 W3 by
  rw [hW3]
  exact ((Tch.refl (res3 w.heap.size (w.heap.size + 1) (w.heap.size + 1 + 1)) w2).setCell (a := ⟨w.heap.size + 1, 0, none⟩) (.inl (.inr (.inl rfl))) _).setCell (a := ⟨w.heap.size + 1 + 1, 0, none⟩) (.inl (.inr (.inr rfl))) _)
 have hz3 : W3.heap.size = w2.heap.size := by rw [hW3]; simp
 have HZ3 := hid hz3
 have HB3 := hid (show Below w.heap.size w W3 from HB2.out.trans (HT3.out.below HB2.out.size (by rintro q (rfl | rfl | rfl) <;> omega)))
 clear hz3
 go_upto_region 2 with (fail)
 rw [← hW3]
 clear hW3 c1 cf1 c2 cf2 cz0 cz1 cz2
 have c1 := HR3.out.e.cell
 have cf1 := HR3.out.e.frozen
 have c2 := HR3.out.a.cell
 have cf2 := HR3.out.a.frozen
 obtain ⟨cz0, cz1, cz2⟩ := HR3.out.lt
 have d0 := HR3.out.dcell 0 _ rfl
 have d1 := HR3.out.dcell 1 _ rfl
 have d2 := HR3.out.dcell 2 _ rfl
 have d3 := HR3.out.dcell 3 _ rfl
 have d4 := HR3.out.dcell 4 _ rfl
 have d5 := HR3.out.dcell 5 _ rfl
 have df := HR3.out.dfrozen
 have m1 : ¬ w.heap.size = w.heap.size + 1 := by omega
 have m2 : ¬ w.heap.size + 1 = w.heap.size := by omega
 have m3 : ¬ w.heap.size = w.heap.size + 1 + 1 := by omega
 have m4 : ¬ w.heap.size + 1 + 1 = w.heap.size := by omega
 by_cases hx : x = 0
 rotate_left
 ·have hx1 : (x != 0) = true := by rw [bne_iff_ne]; exact hx
  have HE := hid (Rw.parse_bad HL.out hx)
  clear hx
  go_wp2_with fail
  go_region
  all_goals (go_wp2_with fail)
  refine leavesT_ret_0 (D := w.heap.size) (E := w.heap.size + 1) (A := w.heap.size + 1 + 1) (vr := .slice none 0 0) (vd := .slice none 0 0) (ve := .slice none 0 0) (x := 0) (y := 0) (u := 0) (er := .int .i64 x) (at_ := .int .i64 y) rfl rfl rfl rfl ?_ ?_
  ·exact (((HR3.out.setT (.slice none 0 0) (.slice none 0 0) (.slice none 0 0) 0 0 0).setE (.int .i64 x)).setA (.int .i64 y)).below (Below.refl _ _).drew
  ·rw [HE.out]
   refine ⟨_, rfl, fits_none _ (fun _ => True), ?_⟩
   have hT : Tch (fun k => w.heap.size ≤ k) W3 (((setT W3 w.heap.size (.slice none 0 0) (.slice none 0 0) (.slice none 0 0) 0 0 0).setCell ⟨w.heap.size + 1, 0, none⟩ (.int .i64 x)).setCell ⟨w.heap.size + 1 + 1, 0, none⟩ (.int .i64 y)) :=
    (((setT_tch W3 w.heap.size _ _ _ _ _ _).mono (fun k e => by have e' : k = w.heap.size := e; omega)).setCell (a := ⟨w.heap.size + 1, 0, none⟩) (.inl (by show w.heap.size ≤ w.heap.size + 1; omega)) _).setCell (a := ⟨w.heap.size + 1 + 1, 0, none⟩) (.inl (by show w.heap.size ≤ w.heap.size + 1 + 1; omega)) _
   exact (HB3.out.trans (hT.below HB3.out.size (fun k e => e))).drew
 subst hx
 have hmf : ∀ (fn : Fn) (first cap : Array Value) (w : World), (Instr.makeFunc fn first cap).run Tryz.prog w = .ok (.func fn first cap) w := fun _ _ _ _ => rfl
 obtain ⟨W4, hW4⟩ : ∃ W4, W4 = W3.alloc (.cells #[.slice tva l.length tcap, .int .i64 (bs s).size, .int .i64 0] 113) := ⟨_, rfl⟩
 have hb4 : Below W3.heap.size W3 W4 := by rw [hW4]; exact (Below.refl _ W3).alloc (Nat.le_refl _) _
 obtain ⟨p, hp⟩ : ∃ p, p = W3.heap.size := ⟨_, rfl⟩
 have hpz : W3.heap.size = w2.heap.size := HZ3.out
 have hp3 : w.heap.size + 3 ≤ p := by rw [hp]; omega
 have HPS := hid (show PsW (w.heap.size + 1 + 1) W4 p l s.length 0 from by
  refine ⟨.slice tva l.length tcap, ?_, by rw [hp, hW4, bs_len]; exact alloc_new W3 _, by omega⟩
  exact ((HTK.out.tch HT3.out (by rintro k ⟨hk, _⟩ (rfl | rfl | rfl) <;> omega)).below (by rw [hW4]; exact (Below.refl _ W3).alloc (Nat.le_refl _) _)).mono fun k hk _ => ⟨by have := hk.1; omega, by rw [hp, hpz]; exact hk.2⟩)
 have HR4 := hid (HR3.out.below hb4)
 have HB4 := hid (Below.step HB3.out hb4)
 have hpw4 : p < W4.heap.size := HPS.out.at_.2
 clear hpz
 go_upto_region 6 with (fail)
 rw [← hW4, ← hp]
 clear hb4 hp hW4 c1 cf1 c2 cf2 cz0 cz1 cz2 d0 d1 d2 d3 d4 d5 df
 have C := hid (table_any10 W4 p l s.length 0 HPS.out hll HT4.out w HTB.out HB4.out (by omega) HBN.out)
 have HRO := hid (show ∀ X, Tch (fun b => b = p) W4 X → ResT X w.heap.size (w.heap.size + 1) (w.heap.size + 1 + 1) (.slice none 0 0) (.slice none 0 0) (.slice none 0 0) 0 0 0 (.int .i64 0) (.int .i64 y) from fun X hX => HR4.out.tch hX (by rintro k (rfl | rfl | rfl) e <;> omega))
 have HBO := hid (show ∀ X, Tch (fun b => b = p) W4 X → Below w.heap.size w X from fun X hX => HB4.out.trans (hX.below HB4.out.size (fun k e => by omega)))
 cases ht : Rw.tableP s.length l with
 | error z =>
  have HE := hid (Rw.parse_err HL.out ht)
  rw [ht] at C
  clear ht
  go_wp2_with fail
  refine (C.out).mono ?_
  rintro en w5 ⟨rfl, ht5⟩
  unfold thrownP
  go_wp2_with fail
  refine leavesT_1 (D := w.heap.size) (E := w.heap.size + 1) (A := w.heap.size + 1 + 1) rfl rfl rfl rfl (HRO.out _ ht5) z fun w' hT => ?_
  rw [HE.out]
  exact ⟨_, rfl, fits_none _ (fun _ => True), (HBO.out _ ht5).trans (hT.below (HBO.out _ ht5).size (by rintro q (rfl | rfl | rfl) <;> omega))⟩
 | ok u =>
 obtain ⟨t, r⟩ := u
 rw [ht] at C
 have HTP := hid ht
 clear ht
 go_wp2_with fail
 refine (C.out).mono ?_
 rintro en w5 ⟨v, rfl, hti, ⟨a5, hP5⟩, ht5⟩
 have HTI := hid hti
 obtain ⟨⟨vr, vd, ve, rfl, -⟩, -⟩ := hti
 have hR5 := HRO.out _ ht5
 have HB5 := hid (HBO.out _ ht5)
 have d0 := hR5.dcell 0 _ rfl
 have d1 := hR5.dcell 1 _ rfl
 have d2 := hR5.dcell 2 _ rfl
 have d3 := hR5.dcell 3 _ rfl
 have d4 := hR5.dcell 4 _ rfl
 have d5 := hR5.dcell 5 _ rfl
 have df := hR5.dfrozen
 obtain ⟨cz0, -, -⟩ := hR5.lt
 obtain ⟨W6, hW6⟩ : ∃ X, X = setT w5 w.heap.size vr vd ve t.drop t.order t.initial := ⟨_, rfl⟩
 have hT6 : Tch (fun k => k = w.heap.size) w5 W6 := by rw [hW6]; exact setT_tch _ _ _ _ _ _ _ _
 have HR6 := hid (show ResT W6 w.heap.size (w.heap.size + 1) (w.heap.size + 1 + 1) vr vd ve t.drop t.order t.initial (.int .i64 0) (.int .i64 y) by rw [hW6]; exact hR5.setT _ _ _ _ _ _)
 have HP6 := hid (hP5.tch hT6 (fun b hb _ e => by have e' : b = w.heap.size := e; omega))
 have HTI6 := hid (HTI.out.tch hT6 (fun k hk e => by have e' : k = w.heap.size := e; omega))
 have HB6 := hid (HB5.out.trans (hT6.below HB5.out.size (fun k e => by have e' : k = w.heap.size := e; omega)))
 unfold setT at hW6
 clear hP5 hT6 hR5 C HTI ht5
 obtain ⟨vi, cap, rfl⟩ : ∃ a c, vr = .slice a t.rules.length c := by
  obtain ⟨⟨vr', vd', ve', e, h1, h2, h3⟩, -⟩ := HTI6.out
  cases e
  exact h1.slice
 obtain ⟨vj, capj, rfl⟩ : ∃ a c, vd = .slice a t.drops.length c := by
  obtain ⟨⟨vr', vd', ve', e, h1, h2, h3⟩, -⟩ := HTI6.out
  cases e
  exact h2.slice
 obtain ⟨vk, capk, rfl⟩ : ∃ a c, ve = .slice a t.ends.length c := by
  obtain ⟨⟨vr', vd', ve', e, h1, h2, h3⟩, -⟩ := HTI6.out
  cases e
  exact h3.slice
 go_upto_region 7 with (fail)
 rw [← hW6]
 clear hW6 d0 d1 d2 d3 d4 d5 df cz0
 obtain ⟨ts, g1, g2, g3⟩ := HP6.out
 obtain ⟨va, tc, rfl, k1, k2, k3⟩ := g1
 have hp6 : p < W6.heap.size := (Array.getElem?_eq_some_iff.1 g2).1
 have p0 : W6.cell? ⟨p, 0, none⟩ = some (.slice va r.length tc) := by simp [World.cell?, g2]
 clear g2 g3
 have d0 := HR6.out.dcell 0 _ rfl
 have d1 := HR6.out.dcell 1 _ rfl
 have d2 := HR6.out.dcell 2 _ rfl
 have d3 := HR6.out.dcell 3 _ rfl
 have d4 := HR6.out.dcell 4 _ rfl
 have d5 := HR6.out.dcell 5 _ rfl
 have df := HR6.out.dfrozen
 have c1 := HR6.out.e.cell
 have cf1 := HR6.out.e.frozen
 have c2 := HR6.out.a.cell
 have cf2 := HR6.out.a.frozen
 obtain ⟨cz0, cz1, cz2⟩ := HR6.out.lt
 cases r with
 | nil =>
  simp only [List.length_nil] at p0
  have HE := hid (Rw.parse_done HL.out HTP.out)
  clear k3 HTP
  go_wp2_with fail
  refine leavesT_ret (D := w.heap.size) (E := w.heap.size + 1) (A := w.heap.size + 1 + 1) rfl rfl rfl rfl (((HR6.out.setT (.slice vi t.rules.length cap) (.slice vj t.drops.length capj) (.slice vk t.ends.length capk) t.drop t.order t.initial).setE (.int .i64 0)).setA (.int .i64 0)) fun w' hb' => ?_
  rw [HE.out]
  have hT : Tch (res3 w.heap.size (w.heap.size + 1) (w.heap.size + 1 + 1)) W6 (((setT W6 w.heap.size (.slice vi t.rules.length cap) (.slice vj t.drops.length capj) (.slice vk t.ends.length capk) t.drop t.order t.initial).setCell ⟨w.heap.size + 1, 0, none⟩ (.int .i64 0)).setCell ⟨w.heap.size + 1 + 1, 0, none⟩ (.int .i64 0)) :=
   (((setT_tch W6 w.heap.size _ _ _ _ _ _).mono (fun k e => .inl e)).setCell (a := ⟨w.heap.size + 1, 0, none⟩) (.inl (.inr (.inl rfl))) _).setCell (a := ⟨w.heap.size + 1 + 1, 0, none⟩) (.inl (.inr (.inr rfl))) _
  have hI := (HTI6.out.tch hT (by rintro k hk (rfl | rfl | rfl) <;> omega)).tch (Tch.of_below hb' (fun _ => False)) (fun _ _ e => e)
  have hB := HB6.out.trans (hT.below HB6.out.size (by rintro q (rfl | rfl | rfl) <;> omega))
  exact ⟨_, rfl, hI.tableAt, Below.step hB hb'⟩
 | cons z r =>
  have HE := hid (Rw.parse_more HL.out HTP.out)
  obtain ⟨g, o, rfl, hgp, hr⟩ := k3 (by simp)
  have hc := hr.2 0 z rfl
  have e1 := hc 1 _ rfl
  simp only [Nat.zero_mul, Nat.add_zero] at e1
  have hg := hr.1
  obtain ⟨n, hn⟩ : ∃ n, n = (z :: r).length := ⟨_, rfl⟩
  have n0 : (0 : Int) < (n : Int) := by rw [hn, List.length_cons]; omega
  have n1 : decide ((0 : Int) < (n : Int)) = true := decide_eq_true n0
  rw [← hn] at p0
  have HN := hid (need_no 5 z.1 W6)
  clear k1 k2 k3 hr hc hn HTP
  go_wp2_with fail
  refine (HN.out).mono ?_
  rintro en w7 ⟨rfl, hb7⟩
  unfold thrownP
  go_wp2_with fail
  refine leavesT_1 (D := w.heap.size) (E := w.heap.size + 1) (A := w.heap.size + 1 + 1) rfl rfl rfl rfl (HR6.out.below hb7) (5, z.1) fun w' hT => ?_
  rw [HE.out]
  have hB := Below.step HB6.out hb7
  exact ⟨_, rfl, fits_none _ (fun _ => True), hB.trans (hT.below hB.size (by rintro q (rfl | rfl | rfl) <;> omega))⟩

end Go.Proofs.YtdchjacccmajcaaGreatDoor
