/-
  Several texts in one: ZFr5, ZFr6, ZFr7, ZFr8. Conditions: as each law says.
-/
import Derived.Test.YteogmlgmodeajaaGreatDoorZMFr
import Derived.BigRegion
import Derived.Deep.Cut
import Derived.Deep.CutRange
namespace Go.Proofs.YteogmlgmodeajaaGreatDoor
open Go.RowKit Go.Lib Go.Maps

/-- a token of a slice, its cells -/
theorem tok_cells {w wr : World} {va : Option Addr} {cap k : Nat} {l : List Fa.T} {t : Fa.T} (h : SlOf w (.slice va l.length cap) 4 tkC l) (hk : l[k]? = some t) (hb : Below w.heap.size w wr) :
    ∃ g o, va = some ⟨g, o, none⟩ ∧ g < wr.heap.size ∧ wr.cell? ⟨g, o + k * 4, none⟩ = some (.int .i64 t.2.kind) ∧ wr.cell? ⟨g, o + k * 4 + 1, none⟩ = some (.int .i64 t.1) ∧ wr.cell? ⟨g, o + k * 4 + 2, none⟩ = some (.int .i64 t.2.n) ∧ wr.cell? ⟨g, o + k * 4 + 3, none⟩ = some (.string (bs t.2.text)) := by
  obtain ⟨a', cap', ea, _, _, h4⟩ := h
  cases ea
  obtain ⟨g, o, rfl, hr⟩ := h4 (by have := (List.getElem?_eq_some_iff.1 hk).1; omega)
  have hc := (hr.below hb).2 k t hk
  have e0 := hc 0 _ rfl
  rw [Nat.add_zero] at e0
  exact ⟨g, o, rfl, (hr.below hb).1, e0, hc 1 _ rfl, hc 2 _ rfl, hc 3 _ rfl⟩

/-- a reader of the reference in block p: it reads the tokens l, which lie ahead of it; e: the text's end -/
structure Rd (w : World) (p : Nat) (l : List Fa.T) (e : Nat) (R : Fa.RS) (v : Value) : Prop where
  toks : SlIn w v (fun b => b < p) 4 tkC l
  box : w.heap[p]? = some (.cells #[v, .int .i64 R.k, .int .i64 e, .int .i64 R.er, .int .i64 R.at_] 66 (0, 0))
  k : R.k ≤ l.length
theorem Rd.tch {w w' : World} {p e : Nat} {l : List Fa.T} {R : Fa.RS} {v : Value} {O : Nat → Prop} (h : Rd w p l e R v) (ht : Tch O w w') (ho : ∀ b, b ≤ p → ¬ O b) : Rd w' p l e R v :=
  ⟨h.toks.tch ht fun b hb => ho b (Nat.le_of_lt hb), (ht.block p (Array.getElem?_eq_some_iff.1 h.box).1 (ho p (Nat.le_refl _))).trans h.box, h.k⟩
theorem Rd.below {w w' : World} {p e : Nat} {l : List Fa.T} {R : Fa.RS} {v : Value} (h : Rd w p l e R v) (hb : Below w.heap.size w w') : Rd w' p l e R v := h.tch (Tch.of_below hb (fun _ => False)) (fun _ _ e => e)
theorem Rd.lt {w : World} {p e : Nat} {l : List Fa.T} {R : Fa.RS} {v : Value} (h : Rd w p l e R v) : p < w.heap.size := (Array.getElem?_eq_some_iff.1 h.box).1
theorem Rd.cells {w : World} {p e : Nat} {l : List Fa.T} {R : Fa.RS} {v : Value} (h : Rd w p l e R v) : w.cell? ⟨p, 0, none⟩ = some v ∧ w.cell? ⟨p, 1, none⟩ = some (.int .i64 R.k) ∧ w.cell? ⟨p, 2, none⟩ = some (.int .i64 e) ∧ w.cell? ⟨p, 3, none⟩ = some (.int .i64 R.er) ∧ w.cell? ⟨p, 4, none⟩ = some (.int .i64 R.at_) ∧ (∀ j, w.frozen? ⟨p, j, none⟩ = false) :=
  ⟨by simp [World.cell?, h.box], by simp [World.cell?, h.box], by simp [World.cell?, h.box], by simp [World.cell?, h.box], by simp [World.cell?, h.box], fun j => frozen_of_row w p j _ _ h.box⟩
/-- what a step of the reader ends in: it returns r; the reader stands at R' -/
def RdP (w : World) (p : Nat) (l : List Fa.T) (e : Nat) (R' : Fa.RS) (v : Value) (r : Ending) (en : Ending) (w' : World) : Prop := en = r ∧ Rd w' p l e R' v ∧ Tch (fun b => b = p) w w'
theorem fault_k (R : Fa.RS) (x a : Int) : (R.fault x a).k = R.k := by unfold Fa.RS.fault; split <;> rfl

set_option maxRecDepth 100000 in
set_option maxHeartbeats 4000000 in
theorem rFault_any (x a : Int) (w : World) (p : Nat) (l : List Fa.T) (e : Nat) (R : Fa.RS) (v : Value) (h : Rd w p l e R v) : Calls Tryz.prog 40 #[.pointer (some ⟨p, 0, none⟩), .int .i64 x, .int .i64 a] w (RdP w p l e (R.fault x a) v (.returned (.tuple #[]))) := by
  obtain ⟨c0, c1, c2, c3, c4, cf⟩ := h.cells
  have H := hid h
  have hp := h.lt
  have f3 := cf 3
  have f4 := cf 4
  clear h cf
  by_cases h0 : R.er = 0
  · have d0 : (R.er == 0) = true := by rw [h0]; rfl
    have HE := hid (Fa.RS.fault_live h0 x a)
    clear h0
    go_enter Tryz.func40, Tryz.ntmps40
    go_wp2_with fail
    go_end0
    refine ⟨rfl, ?_, ((Tch.refl (fun b => b = p) w).setCell (a := ⟨p, 3, none⟩) (.inl rfl) _).setCell (a := ⟨p, 4, none⟩) (.inl rfl) _⟩
    rw [HE.out]
    have hT : Tch (fun b => b = p) w ((w.setCell ⟨p, 3, none⟩ (.int .i64 x)).setCell ⟨p, 4, none⟩ (.int .i64 a)) := ((Tch.refl (fun b => b = p) w).setCell (a := ⟨p, 3, none⟩) (.inl rfl) _).setCell (a := ⟨p, 4, none⟩) (.inl rfl) _
    exact ⟨H.out.toks.tch hT fun b hb e => by omega, blk_set (blk_set H.out.box 3 _) 4 _, H.out.k⟩
  · have d0 : (R.er == 0) = false := by rw [beq_eq_false_iff_ne]; exact h0
    have HE := hid (Fa.RS.fault_dead h0 x a)
    clear h0
    go_enter Tryz.func40, Tryz.ntmps40
    go_wp2_with fail
    go_end0
    refine ⟨rfl, ?_, Tch.refl _ _⟩
    rw [HE.out]
    exact H.out

set_option maxRecDepth 100000 in
set_option maxHeartbeats 4000000 in
theorem rSees_any (kd : Nat) (x : List UInt8) (w : World) (p : Nat) (l : List Fa.T) (e : Nat) (R : Fa.RS) (v : Value) (h : Rd w p l e R v) : Calls Tryz.prog 57 #[.pointer (some ⟨p, 0, none⟩), .int .i64 kd, .string (bs x)] w (Gives (.bool (R.sees l kd x)) w) := by
  obtain ⟨c0, c1, c2, c3, c4, -⟩ := h.cells
  have hp := h.lt
  have hrk := h.k
  obtain ⟨va, cap, rfl⟩ := h.toks.slice
  have HS := hid h.toks.slOf
  clear h
  have hl0 : l.length ≤ 9223372036854775807 := by
    obtain ⟨a', cap', ea, h2, h3, -⟩ := HS.out
    cases ea
    unfold maxLen at h3
    omega
  by_cases h0 : R.er = 0
  · have d0 : (R.er == 0) = true := by rw [h0]; rfl
    have H0 := hid h0
    clear h0
    by_cases hk : R.k < l.length
    · obtain ⟨t, ht⟩ : ∃ t, l[R.k]? = some t := ⟨_, List.getElem?_eq_getElem hk⟩
      obtain ⟨g, o, rfl, hg, e0, e1, e2, e3⟩ := tok_cells HS.out ht (Below.refl _ _)
      have hk0 : (0 : Int) ≤ (R.k : Int) := by omega
      have hk1 : (R.k : Int) < (l.length : Int) := by omega
      have d1 : decide ((R.k : Int) < (l.length : Int)) = true := decide_eq_true hk1
      have HT := hid ht
      clear ht
      by_cases hd : t.2.kind = kd
      · have d2 : ((t.2.kind : Int) == (kd : Int)) = true := by rw [hd]; simp
        by_cases hx : x = []
        · have d3 : (bs x).toList.isEmpty = true := by rw [hx, ByteArray.toList_eq]; rfl
          have HE := hid (show R.sees l kd x = true by unfold Fa.RS.sees; simp [HT.out, H0.out, hd, hx])
          clear hd hx
          go_enter Tryz.func57, Tryz.ntmps57
          go_wp2_with fail
          go_quiet (fail)
          go_wp2_with fail
          go_ret
          exact ⟨ret_bool HE.out.symm, Below.drewQ _ _⟩
        · have d3 : (bs x).toList.isEmpty = false := by
            cases x with
            | nil => exact absurd rfl hx
            | cons c x => rw [ByteArray.toList_eq]; rfl
          by_cases hy : t.2.text = x
          · have d4 : ((bs t.2.text).toList == (bs x).toList) = true := by rw [name_beq]; exact decide_eq_true hy
            have HE := hid (show R.sees l kd x = true by unfold Fa.RS.sees; simp [HT.out, H0.out, hd, hy])
            clear hd hx hy
            go_enter Tryz.func57, Tryz.ntmps57
            go_wp2_with fail
            go_quiet (fail)
            go_wp2_with fail
            go_ret
            exact ⟨ret_bool HE.out.symm, Below.drewQ _ _⟩
          · have d4 : ((bs t.2.text).toList == (bs x).toList) = false := by rw [name_beq]; exact decide_eq_false hy
            have HE := hid (show R.sees l kd x = false by unfold Fa.RS.sees; simp [HT.out, H0.out, hd, hy, hx])
            clear hd hx hy
            go_enter Tryz.func57, Tryz.ntmps57
            go_wp2_with fail
            go_quiet (fail)
            go_wp2_with fail
            go_ret
            exact ⟨ret_bool HE.out.symm, Below.drewQ _ _⟩
      · have d2 : ((t.2.kind : Int) == (kd : Int)) = false := by rw [beq_eq_false_iff_ne]; omega
        have HE := hid (show R.sees l kd x = false by unfold Fa.RS.sees; simp [HT.out, H0.out, hd])
        clear hd
        go_enter Tryz.func57, Tryz.ntmps57
        go_wp2_with fail
        go_quiet (fail)
        go_wp2_with fail
        go_ret
        exact ⟨ret_bool HE.out.symm, Below.drewQ _ _⟩
    · have d1 : decide ((R.k : Int) < (l.length : Int)) = false := decide_eq_false (by omega)
      have HE := hid (show R.sees l kd x = false by unfold Fa.RS.sees; rw [List.getElem?_eq_none_iff.2 (by omega)]; simp)
      go_enter Tryz.func57, Tryz.ntmps57
      go_wp2_with fail
      go_quiet (fail)
      go_wp2_with fail
      go_ret
      exact ⟨ret_bool HE.out.symm, Below.drewQ _ _⟩
  · have d0 : (R.er == 0) = false := by rw [beq_eq_false_iff_ne]; exact h0
    have HE := hid (Fa.RS.sees_dead h0 l kd x)
    clear h0
    go_enter Tryz.func57, Tryz.ntmps57
    go_wp2_with fail
    go_quiet (fail)
    go_wp2_with fail
    go_ret
    exact ⟨ret_bool HE.out.symm, Below.drewQ _ _⟩

theorem sees_parts {R : Fa.RS} {l : List Fa.T} {kd : Nat} {x : List UInt8} (h : R.sees l kd x = true) : R.er = 0 ∧ ∃ t, l[R.k]? = some t := by
  unfold Fa.RS.sees at h
  simp only [Bool.and_eq_true, decide_eq_true_eq] at h
  refine ⟨h.1, ?_⟩
  cases ht : l[R.k]? with
  | none => rw [ht] at h; exact absurd h.2 (by simp)
  | some t => exact ⟨t, rfl⟩
theorem take_yes {R : Fa.RS} {l : List Fa.T} {e kd : Nat} {x : List UInt8} {t : Fa.T} (h : R.sees l kd x = true) (ht : l[R.k]? = some t) : R.take l e kd x = (t, ⟨R.k + 1, R.er, R.at_⟩) := by
  unfold Fa.RS.take
  simp only [ht, h, if_true]
theorem take_no {R : Fa.RS} {l : List Fa.T} {e kd : Nat} {x : List UInt8} {t : Fa.T} (h : R.sees l kd x = false) (ht : l[R.k]? = some t) : R.take l e kd x = (Fa.zT, R.fault 5 t.1) := by
  unfold Fa.RS.take
  simp only [ht, h, Bool.false_eq_true, if_false]
theorem take_none {R : Fa.RS} {l : List Fa.T} {e kd : Nat} {x : List UInt8} (ht : l[R.k]? = none) : R.take l e kd x = (Fa.zT, R.fault 6 e) := by
  unfold Fa.RS.take
  simp only [ht]
/-- a token's cells in a block -/
def tokB (w : World) (q : Nat) (t : Fa.T) : Prop := w.heap[q]? = some (.cells #[.int .i64 t.2.kind, .int .i64 t.1, .int .i64 t.2.n, .string (bs t.2.text)] 58 (0, 0))
theorem tok_set {w : World} {q : Nat} {cs : Array Value} (h : w.heap[q]? = some (.cells cs 58 (0, 0))) (hs : cs.size = 4) (t : Fa.T) : tokB ((((w.setCell ⟨q, 0, none⟩ (.int .i64 t.2.kind)).setCell ⟨q, 1, none⟩ (.int .i64 t.1)).setCell ⟨q, 2, none⟩ (.int .i64 t.2.n)).setCell ⟨q, 3, none⟩ (.string (bs t.2.text))) q t := by
  have h1 := blk_set (blk_set (blk_set (blk_set h 0 (.int .i64 t.2.kind)) 1 (.int .i64 t.1)) 2 (.int .i64 t.2.n)) 3 (.string (bs t.2.text))
  unfold tokB
  rw [h1]
  congr 2
  apply Array.ext
  · simp [hs]
  · intro i h2 h3
    simp at h3
    match i, h3 with
    | 0, _ => simp [hs]
    | 1, _ => simp [hs]
    | 2, _ => simp [hs]
    | 3, _ => simp
theorem tok_set_tch {w : World} {p q : Nat} (_hq : p < q) (a b c d : Value) {O : Nat → Prop} (_ho : ∀ k, k < q → ¬ O k) : Tch (fun k => k = q) w ((((w.setCell ⟨q, 0, none⟩ a).setCell ⟨q, 1, none⟩ b).setCell ⟨q, 2, none⟩ c).setCell ⟨q, 3, none⟩ d) :=
  ((((Tch.refl (fun k => k = q) w).setCell (a := ⟨q, 0, none⟩) (.inl rfl) _).setCell (a := ⟨q, 1, none⟩) (.inl rfl) _).setCell (a := ⟨q, 2, none⟩) (.inl rfl) _).setCell (a := ⟨q, 3, none⟩) (.inl rfl) _

set_option maxRecDepth 100000 in
set_option maxHeartbeats 8000000 in
theorem rTake_any (kd : Nat) (x : List UInt8) (w : World) (p : Nat) (l : List Fa.T) (e : Nat) (R : Fa.RS) (v : Value) (h : Rd w p l e R v) : Calls Tryz.prog 39 #[.pointer (some ⟨p, 0, none⟩), .int .i64 kd, .string (bs x)] w (RdP w p l e (R.take l e kd x).2 v (.returned (tkV (R.take l e kd x).1))) := by
  obtain ⟨W1, hW1⟩ : ∃ W1, W1 = w.alloc (.cells #[.int .i64 0, .int .i64 0, .int .i64 0, .string ⟨#[]⟩] 58) := ⟨_, rfl⟩
  have hb1 : Below w.heap.size w W1 := by rw [hW1]; exact below_new w _
  have hs1 : W1.heap[w.heap.size]? = some (.cells #[.int .i64 0, .int .i64 0, .int .i64 0, .string ⟨#[]⟩] 58 (0, 0)) := by rw [hW1]; exact alloc_new w _
  have HW := hid h
  have hpw := h.lt
  have H1 := hid (h.below hb1)
  have HB1 := hid hb1
  have HS1 := hid hs1
  obtain ⟨va, cap, rfl⟩ := h.toks.slice
  have hl0 : l.length ≤ 9223372036854775807 := by
    obtain ⟨a', cap', ea, h2, h3, -⟩ := h.toks.slOf
    cases ea
    unfold maxLen at h3
    omega
  have hrk := h.k
  clear h hb1 hs1
  go_enter Tryz.func39, Tryz.ntmps39
  go_upto_region 1 with (fail)
  rw [← hW1]
  clear hW1
  go_wp2_with fail
  refine (rSees_any kd x W1 p l e R _ H1.out).mono ?_
  rintro en w2 ⟨rfl, hb2⟩
  have H2 := hid (H1.out.below hb2)
  have HB2 := hid (Below.step HB1.out hb2)
  have HS2 := hid ((hb2.block _ (Array.getElem?_eq_some_iff.1 HS1.out).1).trans HS1.out)
  clear hb2
  obtain ⟨c0, c1, c2, c3, c4, cf⟩ := H2.out.cells
  have hp := H2.out.lt
  have hq := (Array.getElem?_eq_some_iff.1 HS2.out).1
  have f1 := cf 1
  cases hs : R.sees l kd x with
  | true =>
    obtain ⟨h0, t, ht⟩ := sees_parts hs
    have hk : R.k < l.length := (List.getElem?_eq_some_iff.1 ht).1
    have HE := hid (take_yes (e := e) hs ht)
    have HT := hid ht
    have e1 : IntKind.i64.wrap ((R.k : Int) + 1) = (R.k : Int) + 1 := IntWalk.i64_in _ (by omega)
    clear hs h0 ht cf
    go_upto_region 3 with (fail)
    obtain ⟨W3, hW3⟩ : ∃ W3, W3 = w2.setCell ⟨p, 1, none⟩ (.int .i64 ((R.k : Int) + 1)) := ⟨_, rfl⟩
    rw [← hW3]
    have hT3 : Tch (fun b => b = p) w2 W3 := by rw [hW3]; exact (Tch.refl (fun b => b = p) w2).setCell (a := ⟨p, 1, none⟩) (.inl rfl) _
    have H3 := hid (show Rd W3 p l e ⟨R.k + 1, R.er, R.at_⟩ (.slice va l.length cap) from ⟨H2.out.toks.tch hT3 fun b hb e => by omega, by rw [hW3]; exact blk_set H2.out.box 1 _, hk⟩)
    have HS3 := hid ((hT3.block _ hq (by show ¬ w.heap.size = p; omega)).trans HS2.out)
    have HT3 := hid ((Tch.of_below HB2.out (fun b => b = p)).trans hT3 fun k hk _ => hk)
    clear hT3 hW3 c0 c1 c2 c3 c4 f1 hp hq
    obtain ⟨c0, c1, c2, c3, c4, cf⟩ := H3.out.cells
    simp only at c1
    rw [show ((R.k + 1 : Nat) : Int) = (R.k : Int) + 1 from rfl] at c1
    have hp := H3.out.lt
    have hq := (Array.getElem?_eq_some_iff.1 HS3.out).1
    obtain ⟨g, o, rfl, hg, e0, e1', e2', e3'⟩ := tok_cells H3.out.toks.slOf HT.out (Below.refl _ _)
    have e4 : IntKind.i64.wrap ((R.k : Int) + 1 - 1) = (R.k : Int) := by rw [show (R.k : Int) + 1 - 1 = (R.k : Int) by omega]; exact IntWalk.i64_in _ (by omega)
    have hk0 : (0 : Int) ≤ (R.k : Int) := by omega
    have hk1 : (R.k : Int) < (l.length : Int) := by omega
    have fq : ∀ j, W3.frozen? ⟨w.heap.size, j, none⟩ = false := fun j => frozen_of_row W3 _ j _ _ HS3.out
    have y0 : W3.cell? ⟨w.heap.size, 0, none⟩ = some (.int .i64 0) := by simp [World.cell?, HS3.out]
    have y1 : W3.cell? ⟨w.heap.size, 1, none⟩ = some (.int .i64 0) := by simp [World.cell?, HS3.out]
    have y2 : W3.cell? ⟨w.heap.size, 2, none⟩ = some (.int .i64 0) := by simp [World.cell?, HS3.out]
    have y3 : W3.cell? ⟨w.heap.size, 3, none⟩ = some (.string ⟨#[]⟩) := by simp [World.cell?, HS3.out]
    have n1 : ¬ p = w.heap.size := by omega
    have n2 : ¬ w.heap.size = p := by omega
    clear cf e1
    go_region
    go_wp2_with fail
    have o1 := tok_set HS3.out rfl t
    refine bodyPost_ret (v := tkV t) (results_cell_row rfl _ _ w.heap.size 58 #[.int .i64 t.2.kind, .int .i64 t.1, .int .i64 t.2.n, .string (bs t.2.text)] (0, 0) _ rfl o1 Tryz.underlying58 rfl (by kernel_rfl)) rfl ?_
    rw [HE.out]
    have hTq := tok_set_tch (w := W3) (p := p) (q := w.heap.size) hpw (.int .i64 t.2.kind) (.int .i64 t.1) (.int .i64 t.2.n) (.string (bs t.2.text)) (O := fun _ => False) (fun _ _ e => e)
    have hR := (H3.out.tch hTq fun b hb e => by have e' : b = w.heap.size := e; omega)
    refine ⟨rfl, hR.below (Below.refl _ _).drew, ?_⟩
    exact (HT3.out.trans hTq fun k hk h1 => by have h1' : k = w.heap.size := hk; omega).step (Below.refl _ _).drew
  | false =>
    have c0' := c0
    cases ht : l[R.k]? with
    | some t =>
      have hk : R.k < l.length := (List.getElem?_eq_some_iff.1 ht).1
      have hk0 : (0 : Int) ≤ (R.k : Int) := by omega
      have hk1 : (R.k : Int) < (l.length : Int) := by omega
      have HE := hid (take_no (e := e) hs ht)
      obtain ⟨g, o, rfl, hg, e0, e1', e2', e3'⟩ := tok_cells H2.out.toks.slOf ht (Below.refl _ _)
      clear hs ht c0' e0 e2' e3'
      go_wp2_with fail
      go_quiet (fail)
      go_upto_region 5 with (fail)
      rename Nat => nq
      obtain ⟨W3, hW3⟩ : ∃ W3, W3 = w2.drewN nq := ⟨_, rfl⟩
      rw [← hW3]
      have hb3 : Below w2.heap.size w2 W3 := by rw [hW3]; exact Below.drewQ _ _
      clear hW3
      have H3 := hid (H2.out.below hb3)
      have HB3 := hid (Below.step HB2.out hb3)
      have HS3 := hid ((hb3.block _ hq).trans HS2.out)
      have y1 := (hb3.cell (p := ⟨g, o + R.k * 4 + 1, none⟩) hg).trans e1'
      have hg3 := Nat.lt_of_lt_of_le hg hb3.size
      clear hb3 c0 c1 c2 c3 c4 cf f1 hp hq hg e1'
      obtain ⟨c0, c1, c2, c3, c4, cf⟩ := H3.out.cells
      have hp := H3.out.lt
      have hq := (Array.getElem?_eq_some_iff.1 HS3.out).1
      have HD := hid (show Below W3.heap.size W3 W3.drew from (Below.refl _ W3).drew)
      have HGP := hid (show g < p from by
        obtain ⟨a', cap', ea, -, -, h4⟩ := H3.out.toks
        cases ea
        obtain ⟨g', o', ea2, hgp, -⟩ := h4 (by omega)
        cases ea2
        exact hgp)
      have HKP : Hid (∀ W, Tch (fun b => b = p) W3 W → ∀ R', Rd W p l e R' (.slice (some ⟨g, o, none⟩) l.length cap) → R'.k = R.k → W.cell? ⟨p, 0, none⟩ = some (.slice (some ⟨g, o, none⟩) l.length cap) ∧ W.cell? ⟨p, 1, none⟩ = some (.int .i64 R.k) ∧ W.cell? ⟨g, o + R.k * 4 + 1, none⟩ = some (.int .i64 t.1)) := fun W hT R' hR hk' => by
        obtain ⟨d0, d1, -⟩ := hR.cells
        rw [hk'] at d1
        exact ⟨d0, d1, (World.cell?_of_block (a := ⟨g, o + R.k * 4 + 1, none⟩) (hT.block g hg3 (by have := HGP.out; show ¬ g = p; omega))).trans y1⟩
      have HT0 := hid (Tch.of_below HD.out (fun b => b = p))
      have HR0 := hid (H3.out.below HD.out)
      have HF := hid (rFault_any 5 t.1 W3.drew p l e R _ HR0.out)
      have HFK := hid (fault_k R 5 t.1)
      have n1 : ¬ p = w.heap.size := by omega
      have n2 : ¬ w.heap.size = p := by omega
      clear cf c2 c3 c4
      go_region_held3 (fun wx => wx.cell? ⟨p, 0, none⟩ = some (.slice (some ⟨g, o, none⟩) l.length cap) ∧ wx.cell? ⟨p, 1, none⟩ = some (.int .i64 R.k) ∧ wx.cell? ⟨g, o + R.k * 4 + 1, none⟩ = some (.int .i64 t.1))
        (first | exact HKP.out _ HT0.out _ HR0.out rfl | exact HKP.out _ (HT0.out.trans hTa (fun k hk _ => hk)) _ hRa HFK.out)
        (first | (go_at_call 40; refine (HF.out).mono ?_; rintro en wa ⟨rfl, hRa, hTa⟩))
      have HSX := (HD.out.block _ hq).trans HS3.out
      have hqx := Nat.lt_of_lt_of_le hq HD.out.size
      have hTx : Tch (fun b => b = p) w wa := ((Tch.of_below HB3.out (fun b => b = p)).step HD.out).trans hTa fun k hk _ => hk
      clear c0 c1 y1 hq hp
      have HSa := hid ((hTa.block _ hqx (by show ¬ w.heap.size = p; omega)).trans HSX)
      have hqa := (Array.getElem?_eq_some_iff.1 HSa.out).1
      have fq : ∀ j, wa.frozen? ⟨w.heap.size, j, none⟩ = false := fun j => frozen_of_row wa _ j _ _ HSa.out
      have y0 : wa.cell? ⟨w.heap.size, 0, none⟩ = some (.int .i64 0) := by simp [World.cell?, HSa.out]
      have y1 : wa.cell? ⟨w.heap.size, 1, none⟩ = some (.int .i64 0) := by simp [World.cell?, HSa.out]
      have y2 : wa.cell? ⟨w.heap.size, 2, none⟩ = some (.int .i64 0) := by simp [World.cell?, HSa.out]
      have y3 : wa.cell? ⟨w.heap.size, 3, none⟩ = some (.string ⟨#[]⟩) := by simp [World.cell?, HSa.out]
      have HRa := hid hRa
      have HTa := hid hTx
      clear hRa hTa hTx hqx HSX
      go_wp2_with fail
      have o1 := tok_set HSa.out rfl Fa.zT
      refine bodyPost_ret (v := tkV Fa.zT) (results_cell_row rfl _ _ w.heap.size 58 #[.int .i64 Fa.zT.2.kind, .int .i64 Fa.zT.1, .int .i64 Fa.zT.2.n, .string (bs Fa.zT.2.text)] (0, 0) _ rfl o1 Tryz.underlying58 rfl (by kernel_rfl)) rfl ?_
      rw [HE.out]
      have hTq := tok_set_tch (w := wa) (p := p) (q := w.heap.size) hpw (.int .i64 Fa.zT.2.kind) (.int .i64 Fa.zT.1) (.int .i64 Fa.zT.2.n) (.string (bs Fa.zT.2.text)) (O := fun _ => False) (fun _ _ e => e)
      have hR := (HRa.out.tch hTq fun b hb e => by have e' : b = w.heap.size := e; omega)
      exact ⟨rfl, hR, HTa.out.trans hTq fun k hk h1 => by have h1' : k = w.heap.size := hk; omega⟩
    | none =>
      have hk : ¬ R.k < l.length := by have := List.getElem?_eq_none_iff.1 ht; omega
      have hk1 : ¬ (R.k : Int) < (l.length : Int) := by omega
      have HE := hid (take_none (e := e) (kd := kd) (x := x) ht)
      clear hs ht c0'
      go_wp2_with fail
      go_quiet (fail)
      go_upto_region 6 with (fail)
      rename Nat => nq
      obtain ⟨W3, hW3⟩ : ∃ W3, W3 = w2.drewN nq := ⟨_, rfl⟩
      rw [← hW3]
      have hb3 : Below w2.heap.size w2 W3 := by rw [hW3]; exact Below.drewQ _ _
      clear hW3
      have H3 := hid (H2.out.below hb3)
      have HB3 := hid (Below.step HB2.out hb3)
      have HS3 := hid ((hb3.block _ hq).trans HS2.out)
      clear hb3 c0 c1 c2 c3 c4 cf f1 hp hq
      obtain ⟨c0, c1, c2, c3, c4, cf⟩ := H3.out.cells
      have hp := H3.out.lt
      go_wp2_with fail
      refine (rFault_any 6 e W3 p l e R _ H3.out).mono ?_
      rintro en wa ⟨rfl, hRa, hTa⟩
      have HSX := HS3.out
      have hqx := (Array.getElem?_eq_some_iff.1 HS3.out).1
      have hTx : Tch (fun b => b = p) w wa := (Tch.of_below HB3.out (fun b => b = p)).trans hTa fun k hk _ => hk
      clear c0 c1 c2 c3 c4 cf hp
      have HSa := hid ((hTa.block _ hqx (by show ¬ w.heap.size = p; omega)).trans HSX)
      have hqa := (Array.getElem?_eq_some_iff.1 HSa.out).1
      have fq : ∀ j, wa.frozen? ⟨w.heap.size, j, none⟩ = false := fun j => frozen_of_row wa _ j _ _ HSa.out
      have y0 : wa.cell? ⟨w.heap.size, 0, none⟩ = some (.int .i64 0) := by simp [World.cell?, HSa.out]
      have y1 : wa.cell? ⟨w.heap.size, 1, none⟩ = some (.int .i64 0) := by simp [World.cell?, HSa.out]
      have y2 : wa.cell? ⟨w.heap.size, 2, none⟩ = some (.int .i64 0) := by simp [World.cell?, HSa.out]
      have y3 : wa.cell? ⟨w.heap.size, 3, none⟩ = some (.string ⟨#[]⟩) := by simp [World.cell?, HSa.out]
      have HRa := hid hRa
      have HTa := hid hTx
      clear hRa hTa hTx hqx HSX
      go_wp2_with fail
      have o1 := tok_set HSa.out rfl Fa.zT
      refine bodyPost_ret (v := tkV Fa.zT) (results_cell_row rfl _ _ w.heap.size 58 #[.int .i64 Fa.zT.2.kind, .int .i64 Fa.zT.1, .int .i64 Fa.zT.2.n, .string (bs Fa.zT.2.text)] (0, 0) _ rfl o1 Tryz.underlying58 rfl (by kernel_rfl)) rfl ?_
      rw [HE.out]
      have hTq := tok_set_tch (w := wa) (p := p) (q := w.heap.size) hpw (.int .i64 Fa.zT.2.kind) (.int .i64 Fa.zT.1) (.int .i64 Fa.zT.2.n) (.string (bs Fa.zT.2.text)) (O := fun _ => False) (fun _ _ e => e)
      have hR := (HRa.out.tch hTq fun b hb e => by have e' : b = w.heap.size := e; omega)
      exact ⟨rfl, hR, HTa.out.trans hTq fun k hk h1 => by have h1' : k = w.heap.size := hk; omega⟩

end Go.Proofs.YteogmlgmodeajaaGreatDoor

namespace Go.Proofs.YteogmlgmodeajaaGreatDoor
open Go.RowKit Go.Lib Go.Maps

theorem take_lit (kdI : Int) (kd : Nat) (s : ByteArray) (x : List UInt8) (h1 : kdI = kd) (h2 : s = bs x) (w : World) (p : Nat) (l : List Fa.T) (e : Nat) (R : Fa.RS) (v : Value) (h : Rd w p l e R v) :
    Calls Tryz.prog 39 #[.pointer (some ⟨p, 0, none⟩), .int .i64 kdI, .string s] w (RdP w p l e (R.take l e kd x).2 v (.returned (tkV (R.take l e kd x).1))) := by
  subst h1; subst h2
  exact rTake_any kd x w p l e R v h
theorem sees_lit (kdI : Int) (kd : Nat) (s : ByteArray) (x : List UInt8) (h1 : kdI = kd) (h2 : s = bs x) (w : World) (p : Nat) (l : List Fa.T) (e : Nat) (R : Fa.RS) (v : Value) (h : Rd w p l e R v) :
    Calls Tryz.prog 57 #[.pointer (some ⟨p, 0, none⟩), .int .i64 kdI, .string s] w (Gives (.bool (R.sees l kd x)) w) := by
  subst h1; subst h2
  exact rSees_any kd x w p l e R v h

def factB (w : World) (q : Nat) (f : Fa.Fact) : Prop := w.heap[q]? = some (.cells #[.string (bs f.name), .int .i64 f.kind, .int .i64 f.lo, .int .i64 f.hi] 62 (0, 0))
theorem tokB.tch {w w' : World} {q : Nat} {t : Fa.T} {O : Nat → Prop} (h : tokB w q t) (ht : Tch O w w') (ho : ¬ O q) : tokB w' q t := (ht.block q (Array.getElem?_eq_some_iff.1 h).1 ho).trans h
theorem factB.tch {w w' : World} {q : Nat} {t : Fa.Fact} {O : Nat → Prop} (h : factB w q t) (ht : Tch O w w') (ho : ¬ O q) : factB w' q t := (ht.block q (Array.getElem?_eq_some_iff.1 h).1 ho).trans h
theorem tokB.cells {w : World} {q : Nat} {t : Fa.T} (h : tokB w q t) : w.cell? ⟨q, 0, none⟩ = some (.int .i64 t.2.kind) ∧ w.cell? ⟨q, 1, none⟩ = some (.int .i64 t.1) ∧ w.cell? ⟨q, 2, none⟩ = some (.int .i64 t.2.n) ∧ w.cell? ⟨q, 3, none⟩ = some (.string (bs t.2.text)) ∧ q < w.heap.size :=
  ⟨by simp [World.cell?, show w.heap[q]? = _ from h], by simp [World.cell?, show w.heap[q]? = _ from h], by simp [World.cell?, show w.heap[q]? = _ from h], by simp [World.cell?, show w.heap[q]? = _ from h], (Array.getElem?_eq_some_iff.1 h).1⟩
theorem factB.cells {w : World} {q : Nat} {f : Fa.Fact} (h : factB w q f) : w.cell? ⟨q, 0, none⟩ = some (.string (bs f.name)) ∧ w.cell? ⟨q, 1, none⟩ = some (.int .i64 f.kind) ∧ w.cell? ⟨q, 2, none⟩ = some (.int .i64 f.lo) ∧ w.cell? ⟨q, 3, none⟩ = some (.int .i64 f.hi) ∧ q < w.heap.size ∧ (∀ j, w.frozen? ⟨q, j, none⟩ = false) :=
  ⟨by simp [World.cell?, show w.heap[q]? = _ from h], by simp [World.cell?, show w.heap[q]? = _ from h], by simp [World.cell?, show w.heap[q]? = _ from h], by simp [World.cell?, show w.heap[q]? = _ from h], (Array.getElem?_eq_some_iff.1 h).1, fun j => frozen_of_row w q j _ _ h⟩
theorem tokB.mk (w : World) (t : Fa.T) : tokB (w.alloc (.cells #[.int .i64 t.2.kind, .int .i64 t.1, .int .i64 t.2.n, .string (bs t.2.text)] 58)) w.heap.size t := alloc_new w _
theorem factB.mk (w : World) (f : Fa.Fact) : factB (w.alloc (.cells #[.string (bs f.name), .int .i64 f.kind, .int .i64 f.lo, .int .i64 f.hi] 62)) w.heap.size f := alloc_new w _

/-- what stands there while a fact is read -/
structure FW (w W : World) (p : Nat) (l : List Fa.T) (e : Nat) (R : Fa.RS) (v vd : Value) : Prop where
  rd : Rd W p l e R v
  tch : Tch (fun b => b = p) w W
  box : One W w.heap.size 24 vd
  res : One W (w.heap.size + 1) 24 (.slice none 0 0)
  p : p < w.heap.size
section
variable {w W W' : World} {p : Nat} {l : List Fa.T} {e : Nat} {R R' : Fa.RS} {v vd : Value}
theorem One.tch' {b : Nat} {t : TypeId} {u : Value} {O : Nat → Prop} (h : One W b t u) (ht : Tch O W W') (ho : ¬ O b) : One W' b t u := (ht.block b h.lt ho).trans h
theorem FW.step (h : FW w W p l e R v vd) (hr : Rd W' p l e R' v) (ht : Tch (fun b => b = p) W W') : FW w W' p l e R' v vd :=
  ⟨hr, h.tch.trans ht (fun k hk _ => hk), h.box.tch' ht (by have := h.p; show ¬ w.heap.size = p; omega), h.res.tch' ht (by have := h.p; show ¬ w.heap.size + 1 = p; omega), h.p⟩
theorem FW.below (h : FW w W p l e R v vd) (hb : Below W.heap.size W W') : FW w W' p l e R v vd := ⟨h.rd.below hb, h.tch.step hb, h.box.below hb, h.res.below hb, h.p⟩
theorem FW.big (h : FW w W p l e R v vd) : w.heap.size + 1 < W.heap.size := h.res.lt
end
/-- the fact and the reader's place ahead of the semicolon -/
def six (R3 : Fa.RS) (l : List Fa.T) (e : Nat) (nm : Fa.T) : Fa.Fact × Fa.RS :=
  if R3.sees l 1 Fa.tFlag then (⟨nm.2.text, 1, 0, 1⟩, ⟨R3.k + 1, R3.er, R3.at_⟩)
  else (⟨nm.2.text, 2, (R3.num l e).1.1.2.n, (R3.num l e).1.2.2.n⟩, (R3.num l e).2)
theorem body_six (R3 : Fa.RS) (l : List Fa.T) (e : Nat) (nm : Fa.T) : R3.body l e nm = ((six R3 l e nm).1, ((six R3 l e nm).2.take l e 4 [59]).2) := by
  unfold Fa.RS.body six
  split <;> rfl

/-- what reading a fact ends in -/
def FactP (w : World) (p B : Nat) (l : List Fa.T) (e : Nat) (r : Fa.Fact × Fa.RS) (d : Fa.Dom) (v vd : Value) (en : Ending) (w' : World) : Prop :=
  ∃ v', en = .returned (.agg #[v']) ∧ Rd w' p l e r.2 v ∧ w'.ownsRow B 62 4 v' (d.length + 1) ((d ++ [r.1]).flatMap factC) ∧ Tch (fun b => b = p ∨ vd.ownBlock = some b) w w'

set_option maxRecDepth 100000 in
set_option maxHeartbeats 16000000 in
theorem rFact_any (w : World) (p B : Nat) (l : List Fa.T) (e : Nat) (R : Fa.RS) (v vd : Value) (d : Fa.Dom) (h : Rd w p l e R v) (hd : w.ownsRow B 62 4 vd d.length (d.flatMap factC)) (hB : p < B) (hBw : B ≤ w.heap.size) (hd5 : d.length ≤ 5000) :
    Calls Tryz.prog 36 #[.pointer (some ⟨p, 0, none⟩), .agg #[vd]] w (FactP w p B l e (R.fact l e d) d v vd) := by
  obtain ⟨i0, hi, hz0, hz1, hz2⟩ := info_parts Tryz.infoFact
  have hp := h.lt
  obtain ⟨W2, hW2⟩ : ∃ W2, W2 = (w.alloc (.cells #[vd] 24)).alloc (.cells #[.slice none 0 0] 24) := ⟨_, rfl⟩
  have hb2 : Below w.heap.size w W2 := by rw [hW2]; exact Below.step (below_new w _) (below_new _ _)
  have hres : One W2 (w.heap.size + 1) 24 (.slice none 0 0) := by
    rw [hW2]
    have := One.new (w.alloc (.cells #[vd] 24)) 24 (.slice none 0 0)
    simpa using this
  have H2 := hid (show FW w W2 p l e R v vd from ⟨h.below hb2, Tch.of_below hb2 _, by rw [hW2]; exact (One.new w _ _).below (below_new _ _), hres, hp⟩)
  have HOWN := hid hd
  obtain ⟨va, cap, rfl⟩ := ownsRow_slice hd
  have HSL := hid (show ∀ W, Tch (fun b => b = p) w W → SlOf W (.slice va d.length cap) 4 factC d from fun W hW => SlOf.own (cells := factC) (ownsRow_tch hd hW fun g hg e => by have := (hd.lt g hg).1; have e' : g = p := e; omega) fun x _ => rfl)
  have hdl : d.length ≤ 9223372036854775807 := by omega
  obtain ⟨q1, hq1⟩ : ∃ q1, q1 = R.take l e 1 [] := ⟨_, rfl⟩
  have HF := hid (show R.fact l e d = ((six ((q1.2.name2 d q1.1).name3 d q1.1) l e q1.1).1, ((six ((q1.2.name2 d q1.1).name3 d q1.1) l e q1.1).2.take l e 4 [59]).2) by rw [← body_six, hq1]; rfl)
  have HTK := hid (fun W (hW : Rd W p l e R v) => take_lit 1 1 ⟨#[]⟩ [] rfl rfl W p l e R v hW)
  rw [← hq1] at HTK
  clear h hd hb2 hres hq1
  go_enter Tryz.func36, Tryz.ntmps36
  go_upto_region 1 with (fail)
  rw [← hW2]
  clear hW2
  go_wp2_with fail
  refine (HTK.out W2 H2.out.rd).mono ?_
  rintro en w3 ⟨rfl, hr3, ht3⟩
  obtain ⟨t1, R1⟩ := q1
  unfold tkV
  simp only at hr3 HF ⊢
  obtain ⟨W4, hW4⟩ : ∃ W4, W4 = w3.alloc (.cells #[.int .i64 t1.2.kind, .int .i64 t1.1, .int .i64 t1.2.n, .string (bs t1.2.text)] 58) := ⟨_, rfl⟩
  have hb4 : Below w3.heap.size w3 W4 := by rw [hW4]; exact below_new w3 _
  have H3 := hid (H2.out.step hr3 ht3)
  have H4 := hid (H3.out.below hb4)
  have HT4 := hid (show tokB W4 w3.heap.size t1 by rw [hW4]; exact tokB.mk w3 t1)
  have hp3 : p < w3.heap.size := H3.out.rd.lt
  have hb3 : w.heap.size + 1 < w3.heap.size := H3.out.big
  clear hr3 ht3 hb4
  go_upto_region 2 with (fail)
  rw [← hW4]
  clear hW4
  go_cut [11, 12, 13, 14, 15, 16, 17, 18, 19, 20, 21, 22] from 23 (fun v11 v12 v13 v14 v15 v16 v17 v18 v19 v20 v21 v22 wx => v22 = .bool (decide (R1.er = 0 ∧ 0 ≤ Fa.idx d t1.2.text)) ∧ Hid (FW w wx p l e R1 v (.slice va d.length cap) ∧ tokB wx w3.heap.size t1))
  case first =>
    obtain ⟨c0, c1, c2, c3, c4, cf⟩ := H4.out.rd.cells
    have hp4 := H4.out.rd.lt
    obtain ⟨t0, t1', t2, t3, tz⟩ := HT4.out.cells
    have b0 := H4.out.box.cell
    have bz := H4.out.box.lt
    clear cf
    by_cases h0 : R1.er = 0
    · have d0 : (R1.er == 0) = true := by rw [h0]; rfl
      have HIX := hid (rIndex_any d (.slice va d.length cap) t1.2.text W4 (HSL.out W4 H4.out.tch))
      have HE := hid (show decide (0 ≤ Fa.idx d t1.2.text) = decide (R1.er = 0 ∧ 0 ≤ Fa.idx d t1.2.text) by rw [decide_eq_decide]; exact ⟨fun h => ⟨h0, h⟩, fun h => h.2⟩)
      clear h0
      go_wp2_with fail
      refine (HIX.out).mono ?_
      rintro en w5 ⟨rfl, hb5⟩
      go_wp2_with fail
      go_meet
      case rel => exact ⟨congrArg Value.bool HE.out, H4.out.below hb5, HT4.out.tch (Tch.of_below hb5 (fun _ => False)) (fun e => e)⟩
    · have d0 : (R1.er == 0) = false := by rw [beq_eq_false_iff_ne]; exact h0
      have HE := hid (show false = decide (R1.er = 0 ∧ 0 ≤ Fa.idx d t1.2.text) from (decide_eq_false (fun h => h0 h.1)).symm)
      clear h0
      go_wp2_with fail
      go_meet
      case rel => exact ⟨congrArg Value.bool HE.out, H4.out, HT4.out⟩
  case rest =>
  rename World => W5a
  obtain ⟨rfl, HH⟩ := hcut
  have H5a := hid HH.out.1
  have HT5a := hid HH.out.2
  clear HH
  go_step
  go_cut [] from 22 (fun wx => Hid (FW w wx p l e (R1.name2 d t1) v (.slice va d.length cap) ∧ tokB wx w3.heap.size t1))
  case first =>
    by_cases hc : R1.er = 0 ∧ 0 ≤ Fa.idx d t1.2.text
    · have HE := hid (show R1.name2 d t1 = R1.fault 9 t1.1 by unfold Fa.RS.name2; rw [if_pos hc])
      rw [decide_eq_true hc]
      obtain ⟨t0, t1', t2, t3, tz⟩ := HT5a.out.cells
      have hp4 := H5a.out.rd.lt
      clear hc
      go_wp2_with fail
      refine (rFault_any 9 t1.1 W5a p l e R1 v H5a.out.rd).mono ?_
      rintro en w6 ⟨rfl, hr6, ht6⟩
      go_wp2_with fail
      go_meet
      case rel => rw [HE.out]; exact ⟨H5a.out.step hr6 ht6, HT5a.out.tch ht6 (by show ¬ w3.heap.size = p; omega)⟩
    · have HE := hid (show R1.name2 d t1 = R1 by unfold Fa.RS.name2; rw [if_neg hc])
      rw [decide_eq_false hc]
      clear hc
      go_wp2_with fail
      go_meet
      case rel => rw [HE.out]; exact ⟨H5a.out, HT5a.out⟩
  case rest =>
  rename World => W5
  have H5 := hid hcut.out.1
  have HT5 := hid hcut.out.2
  obtain ⟨R2, hR2⟩ : ∃ R2, R2 = R1.name2 d t1 := ⟨_, rfl⟩
  rw [← hR2] at H5 HF
  clear hcut hR2
  go_upto_region 4 with (fail)
  go_cut [27, 28, 29, 30, 31, 32, 33, 34, 35, 36, 37] from 38 (fun v27 v28 v29 v30 v31 v32 v33 v34 v35 v36 v37 wx => v37 = .bool (decide (R2.er = 0 ∧ d.length = 60)) ∧ wx = W5)
  case first =>
    obtain ⟨c0, c1, c2, c3, c4, cf⟩ := H5.out.rd.cells
    have hp4 := H5.out.rd.lt
    have b0 := H5.out.box.cell
    have bz := H5.out.box.lt
    clear cf
    by_cases h0 : R2.er = 0
    · have d0 : (R2.er == 0) = true := by rw [h0]; rfl
      have d1 : ((d.length : Int) == 60) = decide (R2.er = 0 ∧ d.length = 60) := by
        rw [Bool.eq_iff_iff, beq_iff_eq, decide_eq_true_eq]; omega
      clear h0
      go_wp2_with fail
      go_meet
      case rel => exact ⟨by simp, rfl⟩
    · have d0 : (R2.er == 0) = false := by rw [beq_eq_false_iff_ne]; exact h0
      have HE := hid (show false = decide (R2.er = 0 ∧ d.length = 60) from (decide_eq_false (fun h => h0 h.1)).symm)
      clear h0
      go_wp2_with fail
      go_meet
      case rel => exact ⟨congrArg Value.bool HE.out, rfl⟩
  case rest =>
  obtain ⟨rfl, hwx⟩ := hcut
  rw [hwx]
  clear hwx
  go_step
  go_cut [] from 37 (fun wx => Hid (FW w wx p l e (R2.name3 d t1) v (.slice va d.length cap) ∧ tokB wx w3.heap.size t1))
  case first =>
    by_cases hc : R2.er = 0 ∧ d.length = 60
    · have HE := hid (show R2.name3 d t1 = R2.fault 2 t1.1 by unfold Fa.RS.name3; rw [if_pos hc])
      rw [decide_eq_true hc]
      obtain ⟨t0, t1', t2, t3, tz⟩ := HT5.out.cells
      have hp4 := H5.out.rd.lt
      clear hc
      go_wp2_with fail
      refine (rFault_any 2 t1.1 W5 p l e R2 v H5.out.rd).mono ?_
      rintro en w6 ⟨rfl, hr6, ht6⟩
      go_wp2_with fail
      go_meet
      case rel => rw [HE.out]; exact ⟨H5.out.step hr6 ht6, HT5.out.tch ht6 (by show ¬ w3.heap.size = p; omega)⟩
    · have HE := hid (show R2.name3 d t1 = R2 by unfold Fa.RS.name3; rw [if_neg hc])
      rw [decide_eq_false hc]
      clear hc
      go_wp2_with fail
      go_meet
      case rel => rw [HE.out]; exact ⟨H5.out, HT5.out⟩
  case rest =>
  rename World => W6
  have H6 := hid hcut.out.1
  have HT6 := hid hcut.out.2
  obtain ⟨R3, hR3⟩ : ∃ R3, R3 = R2.name3 d t1 := ⟨_, rfl⟩
  rw [← hR3] at H6 HF
  clear hcut hR3
  obtain ⟨t0, t1', t2, t3, tz⟩ := HT6.out.cells
  obtain ⟨W7, hW7⟩ : ∃ W7, W7 = W6.alloc (.cells #[.string (bs t1.2.text), .int .i64 1, .int .i64 0, .int .i64 1] 62) := ⟨_, rfl⟩
  have hb7 : Below W6.heap.size W6 W7 := by rw [hW7]; exact below_new W6 _
  have H7 := hid (H6.out.below hb7)
  have HF7 := hid (show factB W7 W6.heap.size ⟨t1.2.text, 1, 0, 1⟩ by rw [hW7]; exact alloc_new W6 _)
  have hp6 : p < W6.heap.size := H6.out.rd.lt
  have hb6 : w.heap.size + 1 < W6.heap.size := H6.out.big
  clear hb7
  go_upto_region 7 with (fail)
  rw [← hW7]
  clear hW7 t0 t1' t2 t3 tz
  go_cut [45, 46] from 47 (fun v45 v46 wx => v46 = .bool (R3.sees l 1 Fa.tFlag) ∧ Hid (FW w wx p l e R3 v (.slice va d.length cap) ∧ factB wx W6.heap.size ⟨t1.2.text, 1, 0, 1⟩))
  case first =>
    go_wp2_with fail
    refine (sees_lit 1 1 ⟨#[102, 108, 97, 103]⟩ Fa.tFlag rfl rfl W7 p l e R3 v H7.out.rd).mono ?_
    rintro en w8 ⟨rfl, hb8⟩
    go_wp2_with fail
    go_meet
    case rel => exact ⟨rfl, H7.out.below hb8, HF7.out.tch (Tch.of_below hb8 (fun _ => False)) (fun e => e)⟩
  case rest =>
  rename World => W8
  obtain ⟨rfl, HH⟩ := hcut
  have H8 := hid HH.out.1
  have HF8 := hid HH.out.2
  clear HH
  go_step
  go_cut [7, 8] from 46 (fun v7 v8 wx => Hid (FW w wx p l e (six R3 l e t1).2 v (.slice va d.length cap) ∧ factB wx W6.heap.size (six R3 l e t1).1))
  case first =>
    obtain ⟨c0, c1, c2, c3, c4, cf⟩ := H8.out.rd.cells
    have hp4 := H8.out.rd.lt
    obtain ⟨x0, x1, x2, x3, xz, xf⟩ := HF8.out.cells
    have f1 := cf 1
    have xf1 := xf 1
    clear cf xf
    cases hs : R3.sees l 1 Fa.tFlag with
    | true =>
      obtain ⟨-, t, ht⟩ := sees_parts hs
      have hk : R3.k < l.length := (List.getElem?_eq_some_iff.1 ht).1
      have HE := hid (show six R3 l e t1 = (⟨t1.2.text, 1, 0, 1⟩, ⟨R3.k + 1, R3.er, R3.at_⟩) by unfold six; rw [if_pos hs])
      have hl0 : l.length ≤ 9223372036854775807 := by
        obtain ⟨a', cap', ea, h2, h3, -⟩ := H8.out.rd.toks
        unfold maxLen at h3
        omega
      have e1 : IntKind.i64.wrap ((R3.k : Int) + 1) = (R3.k : Int) + 1 := IntWalk.i64_in _ (by omega)
      clear hs ht
      go_wp2_with fail
      go_meet
      case rel =>
        rw [HE.out]
        have hT : Tch (fun b => b = p) W8 (W8.setCell ⟨p, 1, none⟩ (.int .i64 ((R3.k : Int) + 1))) := (Tch.refl (fun b => b = p) W8).setCell (a := ⟨p, 1, none⟩) (.inl rfl) _
        exact ⟨H8.out.step ⟨H8.out.rd.toks.tch hT fun b hb e => by omega, blk_set H8.out.rd.box 1 _, hk⟩ hT, HF8.out.tch hT (by show ¬ W6.heap.size = p; omega)⟩
    | false =>
      have HE := hid (show six R3 l e t1 = (⟨t1.2.text, 2, (R3.num l e).1.1.2.n, (R3.num l e).1.2.2.n⟩, (R3.num l e).2) by unfold six; rw [hs]; rfl)
      obtain ⟨W9, hW9⟩ : ∃ W9, W9 = W8.setCell ⟨W6.heap.size, 1, none⟩ (.int .i64 2) := ⟨_, rfl⟩
      have hT9 : Tch (fun b => b = W6.heap.size) W8 W9 := by rw [hW9]; exact (Tch.refl (fun b => b = W6.heap.size) W8).setCell (a := ⟨W6.heap.size, 1, none⟩) (.inl rfl) _
      have HF9 := hid (show factB W9 W6.heap.size ⟨t1.2.text, 2, 0, 1⟩ by rw [hW9]; exact blk_set HF8.out 1 _)
      have H9 := hid (show FW w W9 p l e R3 v (.slice va d.length cap) from ⟨H8.out.rd.tch hT9 fun b hb e => by have e' : b = W6.heap.size := e; omega, H8.out.tch.trans hT9 fun k hk h => by have e' : k = W6.heap.size := hk; omega, H8.out.box.tch' hT9 (by show ¬ w.heap.size = W6.heap.size; omega), H8.out.res.tch' hT9 (by show ¬ w.heap.size + 1 = W6.heap.size; omega), H8.out.p⟩)
      obtain ⟨q4, hq4⟩ : ∃ q4, q4 = R3.take l e 1 Fa.tNumber := ⟨_, rfl⟩
      obtain ⟨q5, hq5⟩ : ∃ q5, q5 = q4.2.take l e 2 [] := ⟨_, rfl⟩
      obtain ⟨R5, hR5⟩ : ∃ R5, R5 = q5.2.lo6 q5.1 := ⟨_, rfl⟩
      obtain ⟨q7, hq7⟩ : ∃ q7, q7 = R5.take l e 1 Fa.tTo := ⟨_, rfl⟩
      obtain ⟨q8, hq8⟩ : ∃ q8, q8 = q7.2.take l e 2 [] := ⟨_, rfl⟩
      have HNU := hid (show R3.num l e = ((q5.1, q8.1), q8.2.hi9 q5.1 q8.1) by rw [hq8, hq7, hR5, hq5, hq4]; rfl)
      have K4 := hid (fun W (hW : Rd W p l e R3 v) => take_lit 1 1 ⟨#[110, 117, 109, 98, 101, 114]⟩ Fa.tNumber rfl rfl W p l e R3 v hW)
      rw [← hq4] at K4
      have K5 := hid (fun W (hW : Rd W p l e q4.2 v) => take_lit 2 2 ⟨#[]⟩ [] rfl rfl W p l e q4.2 v hW)
      rw [← hq5] at K5
      have K7 := hid (fun W (hW : Rd W p l e R5 v) => take_lit 1 1 ⟨#[116, 111]⟩ Fa.tTo rfl rfl W p l e R5 v hW)
      rw [← hq7] at K7
      have K8 := hid (fun W (hW : Rd W p l e q7.2 v) => take_lit 2 2 ⟨#[]⟩ [] rfl rfl W p l e q7.2 v hW)
      rw [← hq8] at K8
      have HR5 := hid hR5
      clear hs hq4 hq5 hR5 hq7 hq8 hT9 c0 c1 c2 c3 c4 x0 f1
      go_upto_region 10 with (fail)
      rw [← hW9]
      clear hW9 x1 x2 x3 xz xf1 hp4
      go_wp2_with fail
      refine (K4.out W9 H9.out.rd).mono ?_
      rintro en w10 ⟨rfl, hr10, ht10⟩
      have H10 := hid (H9.out.step hr10 ht10)
      have HF10 := hid (HF9.out.tch ht10 (by show ¬ W6.heap.size = p; omega))
      clear hr10 ht10
      go_wp2_with fail
      refine (K5.out w10 H10.out.rd).mono ?_
      rintro en w11 ⟨rfl, hr11, ht11⟩
      obtain ⟨lo, R5a⟩ := q5
      unfold tkV
      simp only at hr11 HNU HR5 ⊢
      obtain ⟨W12, hW12⟩ : ∃ W12, W12 = w11.alloc (.cells #[.int .i64 lo.2.kind, .int .i64 lo.1, .int .i64 lo.2.n, .string (bs lo.2.text)] 58) := ⟨_, rfl⟩
      have hb12 : Below w11.heap.size w11 W12 := by rw [hW12]; exact below_new w11 _
      have H11 := hid (H10.out.step hr11 ht11)
      have H12 := hid (H11.out.below hb12)
      have HF12 := hid ((HF10.out.tch ht11 (by show ¬ W6.heap.size = p; omega)).tch (Tch.of_below hb12 (fun _ => False)) (fun e => e))
      have HL12 := hid (show tokB W12 w11.heap.size lo by rw [hW12]; exact tokB.mk w11 lo)
      have hp11 : p < w11.heap.size := H11.out.rd.lt
      have h611 : W6.heap.size < w11.heap.size := by
        have hz := (HF10.out.cells).2.2.2.2.1
        exact Nat.lt_of_lt_of_le hz ht11.size
      clear hr11 ht11 hb12
      go_upto_region 12 with (fail)
      rw [← hW12]
      clear hW12
      go_cut [59, 60, 61] from 62 (fun v59 v60 v61 wx => v61 = .bool (decide (1000000 < lo.2.n)) ∧ wx = W12)
      case first =>
        obtain ⟨t0, t1', t2, t3, tz⟩ := HL12.out.cells
        have d1 : decide ((1000000 : Int) < (lo.2.n : Int)) = decide (1000000 < lo.2.n) := by rw [decide_eq_decide]; omega
        go_wp2_with fail
        go_meet
        case rel => exact ⟨by first | rfl | exact congrArg Value.bool d1, rfl⟩
      case rest =>
      obtain ⟨rfl, hwx⟩ := hcut
      rw [hwx]
      clear hwx
      go_step
      go_cut [] from 61 (fun wx => Hid (FW w wx p l e R5 v (.slice va d.length cap) ∧ factB wx W6.heap.size ⟨t1.2.text, 2, 0, 1⟩ ∧ tokB wx w11.heap.size lo))
      case first =>
        by_cases hc : 1000000 < lo.2.n
        · have HE2 := hid (show R5 = R5a.fault 10 lo.1 by rw [HR5.out]; unfold Fa.RS.lo6; rw [if_pos hc])
          rw [decide_eq_true hc]
          obtain ⟨t0, t1', t2, t3, tz⟩ := HL12.out.cells
          clear hc
          go_wp2_with fail
          refine (rFault_any 10 lo.1 W12 p l e R5a v H12.out.rd).mono ?_
          rintro en w13 ⟨rfl, hr13, ht13⟩
          go_wp2_with fail
          go_meet
          case rel => rw [HE2.out]; exact ⟨H12.out.step hr13 ht13, HF12.out.tch ht13 (by show ¬ W6.heap.size = p; omega), HL12.out.tch ht13 (by show ¬ w11.heap.size = p; omega)⟩
        · have HE2 := hid (show R5 = R5a by rw [HR5.out]; unfold Fa.RS.lo6; rw [if_neg hc])
          rw [decide_eq_false hc]
          clear hc
          go_wp2_with fail
          go_meet
          case rel => rw [HE2.out]; exact ⟨H12.out, HF12.out, HL12.out⟩
      case rest =>
      rename World => W13
      have H13 := hid hcut.out.1
      have HF13 := hid hcut.out.2.1
      have HL13 := hid hcut.out.2.2
      clear hcut
      go_upto_region 14 with (fail)
      go_wp2_with fail
      refine (K7.out W13 H13.out.rd).mono ?_
      rintro en w14 ⟨rfl, hr14, ht14⟩
      have H14 := hid (H13.out.step hr14 ht14)
      have HF14 := hid (HF13.out.tch ht14 (by show ¬ W6.heap.size = p; omega))
      have HL14 := hid (HL13.out.tch ht14 (by show ¬ w11.heap.size = p; omega))
      clear hr14 ht14
      go_wp2_with fail
      refine (K8.out w14 H14.out.rd).mono ?_
      rintro en w15 ⟨rfl, hr15, ht15⟩
      obtain ⟨hi', R8⟩ := q8
      unfold tkV
      simp only at hr15 HNU ⊢
      obtain ⟨W16, hW16⟩ : ∃ W16, W16 = w15.alloc (.cells #[.int .i64 hi'.2.kind, .int .i64 hi'.1, .int .i64 hi'.2.n, .string (bs hi'.2.text)] 58) := ⟨_, rfl⟩
      have hb16 : Below w15.heap.size w15 W16 := by rw [hW16]; exact below_new w15 _
      have H15 := hid (H14.out.step hr15 ht15)
      have H16 := hid (H15.out.below hb16)
      have HF16 := hid ((HF14.out.tch ht15 (by show ¬ W6.heap.size = p; omega)).tch (Tch.of_below hb16 (fun _ => False)) (fun e => e))
      have HL16 := hid ((HL14.out.tch ht15 (by show ¬ w11.heap.size = p; omega)).tch (Tch.of_below hb16 (fun _ => False)) (fun e => e))
      have HH16 := hid (show tokB W16 w15.heap.size hi' by rw [hW16]; exact tokB.mk w15 hi')
      have hp15 : p < w15.heap.size := H15.out.rd.lt
      have h615 : w11.heap.size < w15.heap.size := by
        have hz := (HL14.out.cells).2.2.2.2
        exact Nat.lt_of_lt_of_le hz ht15.size
      clear hr15 ht15 hb16
      go_upto_region 16 with (fail)
      rw [← hW16]
      clear hW16
      go_cut [70, 71, 72, 73, 74, 75, 76, 77, 78, 79] from 80 (fun v70 v71 v72 v73 v74 v75 v76 v77 v78 v79 wx => v79 = .bool (decide (1000000 < hi'.2.n ∨ hi'.2.n < lo.2.n)) ∧ wx = W16)
      case first =>
        obtain ⟨t0, t1', t2, t3, tz⟩ := HL16.out.cells
        obtain ⟨s0, s1', s2, s3, sz⟩ := HH16.out.cells
        by_cases hc : 1000000 < hi'.2.n
        · have d1 : decide ((1000000 : Int) < (hi'.2.n : Int)) = true := decide_eq_true (by omega)
          have hc2 : (1000000 : Int) < (hi'.2.n : Int) := by omega
          have HE2 := hid (show true = decide (1000000 < hi'.2.n ∨ hi'.2.n < lo.2.n) from (decide_eq_true (.inl hc)).symm)
          clear hc
          go_wp2_with fail
          go_meet
          case rel => exact ⟨congrArg Value.bool HE2.out, rfl⟩
        · have d1 : decide ((1000000 : Int) < (hi'.2.n : Int)) = false := decide_eq_false (by omega)
          have hc2 : ¬ (1000000 : Int) < (hi'.2.n : Int) := by omega
          have HE2 := hid (show decide ((hi'.2.n : Int) < (lo.2.n : Int)) = decide (1000000 < hi'.2.n ∨ hi'.2.n < lo.2.n) by rw [decide_eq_decide]; omega)
          clear hc
          go_wp2_with fail
          go_meet
          case rel => exact ⟨by first | exact congrArg Value.bool HE2.out | (refine congrArg Value.bool (Eq.trans ?_ HE2.out); rw [decide_eq_decide]; omega), rfl⟩
      case rest =>
      obtain ⟨rfl, hwx⟩ := hcut
      rw [hwx]
      clear hwx
      go_step
      go_cut [] from 79 (fun wx => Hid (FW w wx p l e (R8.hi9 lo hi') v (.slice va d.length cap) ∧ factB wx W6.heap.size ⟨t1.2.text, 2, 0, 1⟩ ∧ tokB wx w11.heap.size lo ∧ tokB wx w15.heap.size hi'))
      case first =>
        by_cases hc : 1000000 < hi'.2.n ∨ hi'.2.n < lo.2.n
        · have HE2 := hid (show R8.hi9 lo hi' = R8.fault 10 hi'.1 by unfold Fa.RS.hi9; rw [if_pos hc])
          rw [decide_eq_true hc]
          obtain ⟨s0, s1', s2, s3, sz⟩ := HH16.out.cells
          clear hc
          go_wp2_with fail
          refine (rFault_any 10 hi'.1 W16 p l e R8 v H16.out.rd).mono ?_
          rintro en w17 ⟨rfl, hr17, ht17⟩
          go_wp2_with fail
          go_meet
          case rel => rw [HE2.out]; exact ⟨H16.out.step hr17 ht17, HF16.out.tch ht17 (by show ¬ W6.heap.size = p; omega), HL16.out.tch ht17 (by show ¬ w11.heap.size = p; omega), HH16.out.tch ht17 (by show ¬ w15.heap.size = p; omega)⟩
        · have HE2 := hid (show R8.hi9 lo hi' = R8 by unfold Fa.RS.hi9; rw [if_neg hc])
          rw [decide_eq_false hc]
          clear hc
          go_wp2_with fail
          go_meet
          case rel => rw [HE2.out]; exact ⟨H16.out, HF16.out, HL16.out, HH16.out⟩
      case rest =>
      rename World => W17
      have H17 := hid hcut.out.1
      have HF17 := hid hcut.out.2.1
      have HL17 := hid hcut.out.2.2.1
      have HH17 := hid hcut.out.2.2.2
      clear hcut
      go_upto_region 18 with (fail)
      obtain ⟨t0, t1', t2, t3, tz⟩ := HL17.out.cells
      obtain ⟨s0, s1', s2, s3, sz⟩ := HH17.out.cells
      obtain ⟨x0, x1, x2, x3, xz, xf⟩ := HF17.out.cells
      have xf2 := xf 2
      have xf3 := xf 3
      have n1 : ¬ w11.heap.size = W6.heap.size := by omega
      have n2 : ¬ w15.heap.size = W6.heap.size := by omega
      have n3 : ¬ W6.heap.size = w11.heap.size := by omega
      have n4 : ¬ W6.heap.size = w15.heap.size := by omega
      clear xf
      go_wp2_with fail
      go_meet
      case rel =>
        rw [HE.out, HNU.out]
        have hT : Tch (fun b => b = W6.heap.size) W17 ((W17.setCell ⟨W6.heap.size, 2, none⟩ (.int .i64 lo.2.n)).setCell ⟨W6.heap.size, 3, none⟩ (.int .i64 hi'.2.n)) := ((Tch.refl (fun b => b = W6.heap.size) W17).setCell (a := ⟨W6.heap.size, 2, none⟩) (.inl rfl) _).setCell (a := ⟨W6.heap.size, 3, none⟩) (.inl rfl) _
        exact ⟨⟨H17.out.rd.tch hT fun b hb e => by have e' : b = W6.heap.size := e; omega, H17.out.tch.trans hT fun k hk h => by have e' : k = W6.heap.size := hk; omega, H17.out.box.tch' hT (by show ¬ w.heap.size = W6.heap.size; omega), H17.out.res.tch' hT (by show ¬ w.heap.size + 1 = W6.heap.size; omega), H17.out.p⟩, blk_set (blk_set HF17.out 2 _) 3 _⟩
  case rest =>
  rename World => W20
  have H20 := hid hcut.out.1
  have HF20 := hid hcut.out.2
  clear hcut
  obtain ⟨⟨f, R6⟩, h6⟩ : ∃ q, q = six R3 l e t1 := ⟨_, rfl⟩
  rw [← h6] at H20 HF20 HF
  clear h6
  simp only at H20 HF20 HF
  have K9 := hid (fun W (hW : Rd W p l e R6 v) => take_lit 4 4 ⟨#[59]⟩ [59] rfl rfl W p l e R6 v hW)
  obtain ⟨q9, hq9⟩ : ∃ q9, q9 = R6.take l e 4 [59] := ⟨_, rfl⟩
  rw [← hq9] at K9 HF
  clear hq9
  go_upto_region 20 with (fail)
  go_wp2_with fail
  refine (K9.out W20 H20.out.rd).mono ?_
  rintro en w21 ⟨rfl, hr21, ht21⟩
  have H21 := hid (H20.out.step hr21 ht21)
  have HF21 := hid (HF20.out.tch ht21 (by show ¬ W6.heap.size = p; omega))
  clear hr21 ht21
  have b0 := H21.out.box.cell
  have bz := H21.out.box.lt
  have bf := H21.out.box.frozen
  obtain ⟨x0, x1, x2, x3, xz, -⟩ := HF21.out.cells
  have hown := ownsRow_tch HOWN.out H21.out.tch fun g hg e => by have := (HOWN.out.lt g hg).1; have e' : g = p := e; omega
  have hown2 := hown.alloc (.cells #[.string (bs f.name), .int .i64 f.kind, .int .i64 f.lo, .int .i64 f.hi] 62)
  have H21a := hid (H21.out.below (below_new w21 (.cells #[.string (bs f.name), .int .i64 f.kind, .int .i64 f.lo, .int .i64 f.hi] 62)))
  have HNB := hid (show ∀ g, (Value.slice va d.length cap).ownBlock = some g → g < w.heap.size from fun g hg => (HOWN.out.lt g hg).2)
  have hBa : B ≤ w21.heap.size := by have := H21.out.big; omega
  have HSN := hid (show (d ++ [f]).flatMap factC = d.flatMap factC ++ [.string (bs f.name), .int .i64 f.kind, .int .i64 f.lo, .int .i64 f.hi] by rw [List.flatMap_append]; simp [factC])
  clear hown
  unfold tkV
  go_upto_region 21 with (fail)
  go_wp2_with (at_builtin; refine wpList_append_own _ rfl _ _ 22 rfl B 62 i0 (.agg #[.string ⟨#[]⟩, .int .i64 0, .int .i64 0, .int .i64 0]) 4 40 Tryz.underlying22 hi hz0 hz1 hz2 rfl (by decide) _ _ _ rfl hown2 ⟨w21.heap.size, 0, none⟩ 1 1 [.string (bs f.name), .int .i64 f.kind, .int .i64 f.lo, .int .i64 f.hi] rfl rfl (cells_new rfl) (by simp [Value.oneCell']) (by unfold maxLen; omega) (by omega) (by simp; omega) ?_; intro v' w22 ho22 hg22 _; obtain ⟨va', cap', rfl⟩ := ownsRow_slice ho22; have hT22 := Tch.of_grown (O := fun k => (Value.slice va d.length cap).ownBlock = some k) hg22 (fun r hr => hr); have hO22 := H21a.out.box.tch' hT22 (fun e => Nat.lt_irrefl _ (HNB.out _ e)); have hR22 := H21a.out.res.tch' hT22 (fun e => by have := HNB.out _ e; omega); have y0 := hO22.cell; have y1 := hO22.lt; have y2 := hO22.frozen; have r0 := hR22.cell; have r1 := hR22.lt; have r2 := hR22.frozen)
  obtain ⟨W23, hW23⟩ : ∃ W23, W23 = (w22.setCell ⟨w.heap.size, 0, none⟩ (.slice va' (d.length + 1) cap')).setCell ⟨w.heap.size + 1, 0, none⟩ (.slice va' (d.length + 1) cap') := ⟨_, rfl⟩
  have o1 : W23.heap[w.heap.size + 1]? = some (.cells #[.slice va' (d.length + 1) cap'] 24 (0, 0)) := by
    rw [hW23]
    have h1 : (w22.setCell ⟨w.heap.size, 0, none⟩ (.slice va' (d.length + 1) cap')).heap[w.heap.size + 1]? = some (.cells #[.slice none 0 0] 24 (0, 0)) := (Below.heap_setCell _ _ _ _ (by show w.heap.size + 1 ≠ w.heap.size; omega)).trans hR22
    exact blk_set h1 0 _
  have hT23 : Tch (fun k => k = w.heap.size ∨ k = w.heap.size + 1) w22 W23 := by
    rw [hW23]
    exact ((Tch.refl (fun k => k = w.heap.size ∨ k = w.heap.size + 1) w22).setCell (a := ⟨w.heap.size, 0, none⟩) (.inl (.inl rfl)) _).setCell (a := ⟨w.heap.size + 1, 0, none⟩) (.inl (.inr rfl)) _
  rw [← hW23]
  clear hW23
  refine bodyPost_ret (v := .agg #[.slice va' (d.length + 1) cap']) (results_cell_row rfl _ _ (w.heap.size + 1) 24 #[.slice va' (d.length + 1) cap'] (0, 0) _ rfl o1 Tryz.underlying24 rfl (by kernel_rfl)) rfl ?_
  have hrd := (H21a.out.rd.tch hT22 fun k hk e => by have := (HOWN.out.lt k e).1; omega)
  have hrd2 := hrd.tch hT23 fun k hk e => by rcases e with e | e <;> omega
  rw [HF.out]
  refine ⟨_, rfl, hrd2, ?_, ?_⟩
  · rw [HSN.out]
    refine ownsRow_tch ho22 hT23 fun g hg e => ?_
    rcases ho22.2 with ⟨h1, _⟩ | ⟨g', cap2, cur, hv, hgb, hh, r⟩
    · rw [h1] at hg
      simp [Value.ownBlock] at hg
    · rw [hv] at hg
      simp [Value.ownBlock] at hg
      subst hg
      rcases e with e | e
      · subst e
        have h3 := hO22
        unfold One at h3
        rw [hh] at h3
        cases h3
      · subst e
        have h3 := hR22
        unfold One at h3
        rw [hh] at h3
        cases h3
  · refine ((H21a.out.tch.mono (O' := fun b => b = p ∨ (Value.slice va d.length cap).ownBlock = some b) fun k e => .inl e).trans hT22 fun k hk _ => .inr hk).trans hT23 fun k hk h1 => ?_
    rcases hk with e | e <;> omega

end Go.Proofs.YteogmlgmodeajaaGreatDoor

namespace Go.Proofs.YteogmlgmodeajaaGreatDoor
open Go.RowKit Go.Lib Go.Maps

theorem results_parse {tmps : Array Value} {w : World} {D : Nat} {v er at_ : Value} (h2 : tmps.getD 2 undef = .pointer (some ⟨D, 0, none⟩)) (h3 : tmps.getD 3 undef = er) (h4 : tmps.getD 4 undef = at_)
    (h : One w D 24 v) : (results Tryz.f7 tmps).run Tryz.prog w = .ok (.tuple #[.agg #[v], er, at_]) w := by
  have hl := load_dom h
  have hfn : Tryz.f7.results = #[.cell 2 24, .tmp 3, .tmp 4] := by kernel_rfl
  have h2' : tmps[2]?.getD undef = .pointer (some ⟨D, 0, none⟩) := by simpa using h2
  have h3' : tmps[3]?.getD undef = er := by simpa using h3
  have h4' : tmps[4]?.getD undef = at_ := by simpa using h4
  simp [results, h2', h3', h4', asAddr, hl, Result.andThen]

theorem factP_few {d : Fa.Dom} {e : Nat} {ts r : List Fa.T} {f : Fa.Fact} (h : Fa.factP d e ts = .ok (f, r)) : d.length ≠ 60 := by
  intro hl
  unfold Fa.factP at h
  split at h
  · cases h
  · split at h
    · cases h
    · first | cases h | (rw [if_pos hl] at h; cases h)

/-- what stands there while the reference parses -/
structure PS (w W : World) (p : Nat) (l : List Fa.T) (e : Nat) (R : Fa.RS) (d : Fa.Dom) (v vd : Value) : Prop where
  rd : Rd W p l e R v
  own : W.ownsRow (p + 2) 62 4 vd d.length (d.flatMap factC)
  box : One W (p + 1) 24 vd
  res : One W w.heap.size 24 (.slice none 0 0)
  below : Below w.heap.size w W
  p : w.heap.size < p
/-- where the reading stands -/
def PSt (s : List UInt8) (l : List Fa.T) (R : Fa.RS) (d : Fa.Dom) : Prop := (R.er = 0 ∧ Fa.At s l d R.k ∧ d.length ≤ 60) ∨ (R.er ≠ 0 ∧ Fa.parse s = ([], R.er, R.at_))
def errAt (w : World) (p : Nat) : Int := match w.cell? ⟨p, 3, none⟩ with | some (.int _ n) => n | _ => 0
theorem Rd.errAt {w : World} {p e : Nat} {l : List Fa.T} {R : Fa.RS} {v : Value} (h : Rd w p l e R v) : errAt w p = R.er := by
  unfold Go.Proofs.YteogmlgmodeajaaGreatDoor.errAt
  rw [h.cells.2.2.2.1]
theorem Rd.nextAt {w : World} {p e : Nat} {l : List Fa.T} {R : Fa.RS} {v : Value} (h : Rd w p l e R v) : nextAt w p = R.k := by
  unfold Go.Proofs.YteogmlgmodeajaaGreatDoor.nextAt
  rw [h.cells.2.1]
  simp
def leftAt (n : Nat) (w : World) (p : Nat) : Nat := if errAt w p = 0 then 1 + (n - nextAt w p) else 0

theorem lex_err_nil {s : List UInt8} {l : List Fa.T} {x y : Int} (h : Lx.lex s = (l, x, y)) (hs : s.length ≤ 4500) : (x ≠ 0 → Fa.parse s = ([], x, y)) ∧ (x = 0 → y = 0) := by
  refine ⟨fun hx => ?_, (Fa.lex_toks (by omega) h).2.2.2.2.2⟩
  unfold Fa.parse
  rw [h]
  simp only
  rw [if_pos hx]

set_option maxRecDepth 100000 in
set_option maxHeartbeats 8000000 in
theorem rParse_any (s : List UInt8) (w : World) (hs : s.length ≤ 4500) : Calls Tryz.prog 7 #[.string (bs s)] w (ParseP w (Fa.parse s)) := by
  obtain ⟨W1, hW1⟩ : ∃ W1, W1 = w.alloc (.cells #[.slice none 0 0] 24) := ⟨_, rfl⟩
  obtain ⟨c1, z1, hb1⟩ := box_cell hW1
  have HB1 := hid hb1
  have HO1 := hid (show One W1 w.heap.size 24 (.slice none 0 0) by rw [hW1]; exact One.new w _ _)
  have HLX := hid (rlex_any (bs s) W1 (by rw [bs_size]; unfold maxLen; omega))
  rcases hx : Lx.lex s with ⟨l, x, y⟩
  rw [bs_list, hx] at HLX
  have HLE := hid (lex_err_nil hx hs)
  have HX := hid hx
  have hsz : (bs s).size ≤ 9223372036854775807 := by rw [bs_size]; omega
  have HS := hid hs
  clear hb1 hx hs c1 z1
  go_enter Tryz.func7, Tryz.ntmps7
  go_upto_region 1 with (fail)
  rw [← hW1]
  clear hW1
  go_wp2_with fail
  refine (HLX.out).mono ?_
  rintro en w2 ⟨v2, rfl, ho2, hb2⟩
  obtain ⟨tva, tcap, rfl⟩ := ownsRow_slice ho2
  have HO2 := hid (HO1.out.below hb2)
  have HB2 := hid (Below.step HB1.out hb2)
  have c2 := HO2.out.cell
  have z2 := HO2.out.lt
  have f2 := HO2.out.frozen
  have HTK := hid (show SlIn w2 (.slice tva l.length tcap) (fun b => W1.heap.size ≤ b ∧ b < w2.heap.size) 4 tkC l from toks_in ho2)
  have hw12 : w.heap.size < W1.heap.size := HO1.out.lt
  have hw22 : W1.heap.size ≤ w2.heap.size := hb2.size
  clear ho2 hb2
  by_cases hx0 : x = 0
  · obtain rfl : y = 0 := HLE.out.2 hx0
    subst hx0
    have HAT := hid (Fa.At.start HX.out)
    obtain ⟨W3, hW3⟩ : ∃ W3, W3 = w2.alloc (.cells #[.slice tva l.length tcap, .int .i64 0, .int .i64 ((bs s).size : Int), .int .i64 0, .int .i64 0] 66) := ⟨_, rfl⟩
    obtain ⟨W4, hW4⟩ : ∃ W4, W4 = W3.alloc (.cells #[.slice none 0 0] 24) := ⟨_, rfl⟩
    have hb3 : Below w2.heap.size w2 W3 := by rw [hW3]; exact below_new w2 _
    have hb4 : Below W3.heap.size W3 W4 := by rw [hW4]; exact below_new W3 _
    have hz3 : W3.heap.size = w2.heap.size + 1 := by rw [hW3, World.size_alloc]
    have hRd : Rd W3 w2.heap.size l s.length ⟨0, 0, 0⟩ (.slice tva l.length tcap) :=
      ⟨(HTK.out.below hb3).mono fun k hk _ => hk.2, by rw [hW3, ← bs_size]; exact alloc_new w2 _, Nat.zero_le _⟩
    have hbox : One W4 (w2.heap.size + 1) 24 (.slice none 0 0) := by
      rw [hW4, ← hz3]
      exact One.new W3 _ _
    have HPS := hid (show PS w W4 w2.heap.size l s.length ⟨0, 0, 0⟩ [] (.slice tva l.length tcap) (.slice none 0 0) from
      ⟨hRd.below hb4, World.ownsRow_nil _ _ _ _, hbox, (HO2.out.below hb3).below hb4, Below.step (Below.step HB2.out hb3) hb4, by omega⟩)
    obtain ⟨p, hp⟩ : ∃ p, p = w2.heap.size := ⟨_, rfl⟩
    rw [← hp] at HPS hz3
    clear hb3 hb4 hRd hbox c2 z2 f2
    go_upto_region 6 with (fail)
    rw [← hW3, ← hW4, ← hp]
    clear hW3 hW4 hp hz3
    go_loopw [] (fun wr => ∃ (R : Fa.RS) (d : Fa.Dom) (vd : Value), Hid (PS w wr p l s.length R d (.slice tva l.length tcap) vd) ∧ Hid (PSt s l R d)) (fun wr => leftAt l.length wr p)
    case atStart => exact ⟨⟨0, 0, 0⟩, [], _, HPS, .inl ⟨rfl, HAT.out, by simp⟩⟩
    case round =>
      obtain ⟨R, d, vd, HP, HT⟩ := hrel
      obtain ⟨va, cap, rfl⟩ := ownsRow_slice HP.out.own
      obtain ⟨c0, c1, c2, c3, c4, cf⟩ := HP.out.rd.cells
      have hp := HP.out.rd.lt
      have b0 := HP.out.box.cell
      have bz := HP.out.box.lt
      have r0 := HP.out.res.cell
      have rz := HP.out.res.lt
      have rf := HP.out.res.frozen
      have hl0 : l.length ≤ 9223372036854775807 := by
        obtain ⟨a', cap', ea, h2, h3, -⟩ := HP.out.rd.toks
        unfold maxLen at h3
        omega
      clear cf
      by_cases h0 : R.er = 0
      · have d0 : (R.er == 0) = true := by rw [h0]; rfl
        obtain ⟨hAt, hd60⟩ : Fa.At s l d R.k ∧ d.length ≤ 60 := by
          rcases HT.out with h | h
          · exact h.2
          · exact absurd h0 h.1
        by_cases hk : R.k < l.length
        · have hk1 : decide ((R.k : Int) < (l.length : Int)) = true := decide_eq_true (by omega)
          have hk2 : (R.k : Int) < (l.length : Int) := by omega
          have HK := hid (rFact_any wr p (p + 2) l s.length R _ _ d HP.out.rd HP.out.own (by omega) (by omega) (by omega))
          have HSM := hid (Fa.RS.fact_same h0 l s.length d)
          have HA := hid hAt
          have HLE2 := hid (show leftAt l.length wr p = 1 + (l.length - R.k) by unfold leftAt; rw [HP.out.rd.errAt, HP.out.rd.nextAt, if_pos h0])
          clear h0 hAt
          go_wp2_with fail
          refine (HK.out).mono ?_
          rintro en w5 ⟨v', rfl, hr5, ho5, ht5⟩
          obtain ⟨va5, cap5, rfl⟩ := ownsRow_slice ho5
          have hno : ∀ g, (Value.slice va d.length cap).ownBlock = some g → p + 2 ≤ g := fun g hg => (HP.out.own.lt g hg).1
          have hb5 : One w5 (p + 1) 24 (.slice va d.length cap) := HP.out.box.tch' ht5 (fun e => by rcases e with e | e; omega; have := hno _ e; omega)
          have hr5' : One w5 w.heap.size 24 (.slice none 0 0) := HP.out.res.tch' ht5 (fun e => by have := HP.out.p; rcases e with e | e; omega; have := hno _ e; omega)
          have HB5 := hid (show Below w.heap.size w w5 from by
            have := HP.out.p
            exact HP.out.below.trans (ht5.below HP.out.below.size (fun k e => by rcases e with e | e; omega; have := hno _ e; omega)))
          have HR5 := hid hr5
          have HO5 := hid ho5
          have HX5 := hid hb5
          have HY5 := hid hr5'
          have y0 := hb5.cell
          have yz := hb5.lt
          have yf := hb5.frozen
          clear hr5 ho5 ht5 hb5 hr5' hno c0 c1 c2 c3 c4 hp b0 bz r0 rz rf d0 hk1
          go_wp2_with fail
          have hTs : Tch (fun b => b = p + 1) w5 (w5.setCell ⟨p + 1, 0, none⟩ (.slice va5 (d.length + 1) cap5)) := (Tch.refl (fun b => b = p + 1) w5).setCell (a := ⟨p + 1, 0, none⟩) (.inl rfl) _
          have hpw := HP.out.p
          obtain ⟨fr, hfr⟩ : ∃ fr, fr = R.fact l s.length d := ⟨_, rfl⟩
          have HPN := hid (show PS w (w5.setCell ⟨p + 1, 0, none⟩ (.slice va5 (d.length + 1) cap5)) p l s.length fr.2 (d ++ [fr.1]) (.slice tva l.length tcap) (.slice va5 (d.length + 1) cap5) from by
            rw [hfr]
            refine ⟨HR5.out.tch hTs fun b hb e => by have e' : b = p + 1 := e; omega, ?_, HX5.out.set _, HY5.out.tch' hTs (by show ¬ w.heap.size = p + 1; omega), HB5.out.setCell (by show w.heap.size ≤ p + 1; omega) _, hpw⟩
            have := ownsRow_tch HO5.out hTs fun g hg e => by have h1 := (HO5.out.lt g hg).1; have e' : g = p + 1 := e; omega
            rw [List.length_append]
            exact this)
          have HSM2 := HSM.out
          rw [← hfr] at HSM2
          go_roundw
          case rel =>
            refine ⟨fr.2, d ++ [fr.1], _, HPN, ?_⟩
            cases hf : Fa.factP d s.length (l.drop R.k) with
            | error xx =>
              obtain ⟨a, b⟩ := xx
              rw [hf] at HSM2
              obtain ⟨e1, e2, e3⟩ := HSM2
              refine .inr ⟨by rw [e1]; exact e3, ?_⟩
              rw [e1, e2]
              exact HA.out.bad hk hf
            | ok yy =>
              obtain ⟨f, rest⟩ := yy
              rw [hf] at HSM2
              obtain ⟨e1, k', hk', rfl, e3⟩ := HSM2
              refine .inl ⟨by rw [e3], ?_, ?_⟩
              · rw [e1, e3]
                exact HA.out.step hk hk' hf
              · have := factP_few hf
                rw [List.length_append]
                simp only [List.length_cons, List.length_nil]
                omega
          case measure =>
            rw [HLE2.out]
            unfold leftAt
            rw [HPN.out.rd.errAt, HPN.out.rd.nextAt]
            cases hf : Fa.factP d s.length (l.drop R.k) with
            | error xx =>
              obtain ⟨a, b⟩ := xx
              rw [hf] at HSM2
              obtain ⟨e1, e2, e3⟩ := HSM2
              rw [if_neg (by rw [e1]; exact e3)]
              omega
            | ok yy =>
              obtain ⟨f, rest⟩ := yy
              rw [hf] at HSM2
              obtain ⟨e1, k', hk', rfl, e3⟩ := HSM2
              rw [e3]
              simp only [if_true]
              omega
        · have hk1 : decide ((R.k : Int) < (l.length : Int)) = false := decide_eq_false (by omega)
          have hk2 : ¬ (R.k : Int) < (l.length : Int) := by omega
          have HE := hid (hAt.done hk)
          have h0b : (R.er != 0) = false := by rw [h0]; rfl
          clear h0 hAt hk
          go_wp2_with fail
          have hTs : Tch (fun b => b = w.heap.size) wr (wr.setCell ⟨w.heap.size, 0, none⟩ (.slice va d.length cap)) := (Tch.refl (fun b => b = w.heap.size) wr).setCell (a := ⟨w.heap.size, 0, none⟩) (.inl rfl) _
          refine ⟨rfl, _, results_parse rfl rfl rfl (HP.out.res.set _), ?_⟩
          rw [HE.out]
          have hpw := HP.out.p
          have hno : ∀ g, (Value.slice va d.length cap).ownBlock = some g → p + 2 ≤ g := fun g hg => (HP.out.own.lt g hg).1
          exact ⟨_, rfl, (SlIn.own (cells := factC) (ownsRow_tch HP.out.own hTs fun g hg e => by have := hno _ hg; have e' : g = w.heap.size := e; omega) fun x _ => rfl).mono fun k hk _ => by have := hno _ hk; omega, HP.out.below.setCell (Nat.le_refl _) _⟩
      · have d0 : (R.er == 0) = false := by rw [beq_eq_false_iff_ne]; exact h0
        have d1 : (R.er != 0) = true := by rw [bne_iff_ne]; exact h0
        have HE := hid (show Fa.parse s = ([], R.er, R.at_) from by
          rcases HT.out with h | h
          · exact absurd h.1 h0
          · exact h.2)
        have n1 : ¬ p = w.heap.size := by have := HP.out.p; omega
        have n2 : ¬ w.heap.size = p := by have := HP.out.p; omega
        clear h0
        go_wp2_with fail
        go_region
        go_wp2_with fail
        refine ⟨rfl, _, results_parse rfl rfl rfl (v := .slice none 0 0) ?_, ?_⟩
        · first | exact HP.out.res.set _ | exact (HP.out.res.set _).below (Below.refl _ _).drew
        · rw [HE.out]
          exact ⟨_, rfl, SlIn.nil _ _ _ _, by first | exact HP.out.below.setCell (Nat.le_refl _) _ | exact Below.step (HP.out.below.setCell (Nat.le_refl _) _) (Below.refl _ _).drew⟩
  · have hx1 : (x != 0) = true := by rw [bne_iff_ne]; exact hx0
    have HE := hid (HLE.out.1 hx0)
    clear hx0
    go_wp2_with fail
    refine ⟨rfl, _, results_parse rfl rfl rfl (HO2.out.set _), ?_⟩
    rw [HE.out]
    exact ⟨_, rfl, SlIn.nil _ _ _ _, HB2.out.setCell (Nat.le_refl _) _⟩

end Go.Proofs.YteogmlgmodeajaaGreatDoor

namespace Go.Proofs.YteogmlgmodeajaaGreatDoor
open Go.RowKit Go.Lib Go.Maps

/-! ### numbers and truths in rows -/

def boolC (b : Bool) : List Value := [.bool b]
theorem flat_bool (l : List Bool) : l.flatMap boolC = l.map Value.bool := by
  induction l with
  | nil => rfl
  | cons x l ih => rw [List.flatMap_cons, ih]; rfl
theorem ownB_set {w : World} {base g n cap : Nat} {e : TypeId} {l : List Bool} (h : w.ownsRow base e 1 (.slice (some ⟨g, 0, none⟩) n cap) n (l.flatMap boolC)) (i : Nat) (x : Bool) : (w.setCell ⟨g, i, none⟩ (.bool x)).ownsRow base e 1 (.slice (some ⟨g, 0, none⟩) n cap) n ((l.set i x).flatMap boolC) := by
  have h1 := h.1
  rw [flat_bool] at h h1
  rw [flat_bool]
  refine ⟨by simpa using h1, ?_⟩
  rcases h.2 with ⟨h2, _⟩ | ⟨g', cap', cur, hv, hg, hh, hn, hc, hs, ht⟩
  · cases h2
  · cases hv
    refine .inr ⟨g, cap, _, rfl, hg, blk_set hh i _, hn, hc, by simpa using hs, ?_⟩
    rw [Array.toList_setIfInBounds, List.map_set, ← ht, List.take_set]
theorem ownB_cell {w : World} {base n co g : Nat} {e : TypeId} {l : List Bool} {i : Nat} {x : Bool} (h : w.ownsRow base e 1 (.slice (some ⟨g, 0, none⟩) n co) n (l.flatMap boolC)) (hx : l[i]? = some x) :
    w.cell? ⟨g, i, none⟩ = some (.bool x) ∧ w.frozen? ⟨g, i, none⟩ = false ∧ g < w.heap.size := by
  have h1 := h.1
  rw [flat_bool] at h h1
  have hi := (List.getElem?_eq_some_iff.1 hx).1
  simp at h1
  rcases h.2 with ⟨h2, h3⟩ | ⟨g', cap, cur, hv, hg, hh, hn, hc, hs, ht⟩
  · cases h2
  · cases hv
    refine ⟨?_, frozen_of_row w g i cur e hh, (Array.getElem?_eq_some_iff.1 hh).1⟩
    have : (cur.toList.take (n * 1))[i]? = some (.bool x) := by rw [ht, List.getElem?_map, hx]; rfl
    rw [List.getElem?_take_of_lt (by omega)] at this
    simp only [World.cell?, hh]
    simpa using this
theorem ownI_cell {w : World} {base n co g : Nat} {e : TypeId} {l : List Int} {i : Nat} {x : Int} (h : w.ownsRow base e 1 (.slice (some ⟨g, 0, none⟩) n co) n (l.flatMap numC)) (hx : l[i]? = some x) :
    w.cell? ⟨g, i, none⟩ = some (.int .i64 x) ∧ w.frozen? ⟨g, i, none⟩ = false ∧ g < w.heap.size := by
  obtain ⟨g', hg, -, h2, -, h3, h4⟩ := own_cell h hx
  cases hg
  exact ⟨h3, h4, h2⟩
theorem made_bools (n : Nat) : (madeCells (Value.bool false).cells (n * 1)).toList = (List.replicate n false).flatMap boolC := by
  rw [flat_bool]
  unfold madeCells
  apply List.ext_getElem?
  intro i
  by_cases h : i < n
  · simp [h, Value.cells, Nat.mod_one]
  · simp [h]
theorem Tryz.infoBool : (Tryz.prog.info? 4).map (fun i => (i.zero, i.size, i.bytes)) = some (some (.bool false), 1, 1) := by kernel_rfl

/-- which names were seen -/
def seenL (d : Fa.Dom) (g : List (List UInt8)) : List Bool := d.map fun f => decide (f.name ∈ g)
theorem seenL_nil (d : Fa.Dom) : seenL d [] = List.replicate d.length false := by
  unfold seenL
  induction d with
  | nil => rfl
  | cons f d ih => rw [List.map_cons, ih]; simp [List.replicate]
theorem seenL_len (d : Fa.Dom) (g : List (List UInt8)) : (seenL d g).length = d.length := by unfold seenL; simp
theorem seenL_at {d : Fa.Dom} {g : List (List UInt8)} {k : Nat} {f : Fa.Fact} (h : d[k]? = some f) : (seenL d g)[k]? = some (decide (f.name ∈ g)) := by unfold seenL; rw [List.getElem?_map, h]; rfl
theorem seenL_set {d : Fa.Dom} (hd : (d.map Fa.Fact.name).Nodup) {g : List (List UInt8)} {k : Nat} {f : Fa.Fact} (h : d[k]? = some f) : (seenL d g).set k true = seenL d (g ++ [f.name]) := by
  apply List.ext_getElem?
  intro j
  by_cases hj : k = j
  · subst hj
    rw [List.getElem?_set_self (by rw [seenL_len]; exact (List.getElem?_eq_some_iff.1 h).1), seenL_at h]
    simp
  · rw [List.getElem?_set_ne hj]
    cases hq : d[j]? with
    | none =>
      rw [List.getElem?_eq_none_iff.2 (by rw [seenL_len]; exact List.getElem?_eq_none_iff.1 hq), List.getElem?_eq_none_iff.2 (by rw [seenL_len]; exact List.getElem?_eq_none_iff.1 hq)]
    | some q =>
      rw [seenL_at hq, seenL_at hq]
      have e1 := Fa.idx_at hd h
      have e2 := Fa.idx_at hd hq
      have hne : q.name ≠ f.name := fun e => by rw [e, e1] at e2; omega
      simp [hne]
/-- the reader behind the search for names that have no value -/
def endR (R : Fa.RS) (d : Fa.Dom) (g : List (List UInt8)) (n : Nat) (j : Nat) : Fa.RS := if R.er = 0 ∧ ∃ f ∈ d.take j, f.name ∉ g then ⟨R.k, 11, n⟩ else R
theorem endR_dead {R : Fa.RS} (h : R.er ≠ 0) (d : Fa.Dom) (g : List (List UInt8)) (n j : Nat) : endR R d g n j = R := by unfold endR; rw [if_neg (fun e => h e.1)]
theorem endR_zero (R : Fa.RS) (d : Fa.Dom) (g : List (List UInt8)) (n : Nat) : endR R d g n 0 = R := by unfold endR; rw [if_neg (by simp)]
theorem endR_k (R : Fa.RS) (d : Fa.Dom) (g : List (List UInt8)) (n j : Nat) : (endR R d g n j).k = R.k := by unfold endR; split <;> rfl
theorem endR_seen {R : Fa.RS} {d : Fa.Dom} {g : List (List UInt8)} {n j : Nat} {f : Fa.Fact} (h : d[j]? = some f) (hg : f.name ∈ g) : endR R d g n (j + 1) = endR R d g n j := by
  unfold endR
  rw [take_snoc h]
  have : (∃ x ∈ d.take j ++ [f], x.name ∉ g) ↔ ∃ x ∈ d.take j, x.name ∉ g := by
    constructor
    · rintro ⟨x, hx, hn⟩
      rcases List.mem_append.1 hx with hx | hx
      · exact ⟨x, hx, hn⟩
      · simp at hx; subst hx; exact absurd hg hn
    · rintro ⟨x, hx, hn⟩
      exact ⟨x, List.mem_append.2 (.inl hx), hn⟩
  simp only [this]
theorem endR_miss {R : Fa.RS} {d : Fa.Dom} {g : List (List UInt8)} {n j : Nat} {f : Fa.Fact} (h : d[j]? = some f) (hg : f.name ∉ g) : endR R d g n (j + 1) = (endR R d g n j).fault 11 n := by
  by_cases h0 : R.er = 0
  · have h1 : endR R d g n (j + 1) = ⟨R.k, 11, n⟩ := by
      unfold endR
      rw [if_pos ⟨h0, f, by rw [take_snoc h]; simp, hg⟩]
    rw [h1]
    unfold endR
    split
    · rw [Fa.RS.fault_dead (by show (11 : Int) ≠ 0; decide)]
    · rw [Fa.RS.fault_live h0]
  · rw [endR_dead h0, endR_dead h0, Fa.RS.fault_dead h0]
theorem endR_done {R : Fa.RS} {d : Fa.Dom} {g : List (List UInt8)} {n : Nat} (hv : Fa.valid d = true) {c : List Int} (hf : Fa.FitTo d c g) (h0 : R.er = 0) : endR R d g n d.length = if g.length < d.length then ⟨R.k, 11, n⟩ else R := by
  unfold endR
  rw [List.take_length]
  have key : (∃ f ∈ d, f.name ∉ g) ↔ g.length < d.length := by
    constructor
    · rintro ⟨f, hm, hn⟩
      have h1 := Fa.nodup_le (f.name :: g) (d.map Fa.Fact.name) (List.nodup_cons.2 ⟨hn, hf.nodup⟩) (fun a ha => by
        rcases List.mem_cons.1 ha with e | ha
        · rw [e]; exact List.mem_map_of_mem hm
        · exact hf.sub a ha)
      simp at h1
      omega
    · intro hl
      apply Classical.byContradiction
      intro hno
      have h1 := Fa.nodup_le (d.map Fa.Fact.name) g (Fa.valid_parts hv).2.1 (fun a ha => by
        obtain ⟨f, hm, rfl⟩ := List.mem_map.1 ha
        apply Classical.byContradiction
        intro hn
        exact hno ⟨f, hm, hn⟩)
      simp at h1
      omega
  by_cases hl : g.length < d.length
  · rw [if_pos ⟨h0, key.2 hl⟩, if_pos hl]
  · rw [if_neg (fun e => hl (key.1 e.2)), if_neg hl]
theorem take_er {R : Fa.RS} {l : List Fa.T} {e kd : Nat} {x : List UInt8} (h : (R.take l e kd x).2.er = 0) : R.er = 0 := by
  apply Classical.byContradiction
  intro h0
  rw [Fa.RS.take_dead h0] at h
  exact h0 h
theorem gone_er {R : Fa.RS} {g : List (List UInt8)} {t : Fa.T} (h : (R.gone3 g t).er = 0) : R.er = 0 := by
  apply Classical.byContradiction
  intro h0
  rw [Fa.RS.gone3_dead h0] at h
  exact h0 h
theorem idx2_er {R : Fa.RS} {d : Fa.Dom} {t : Fa.T} (h : (R.idx2 d t).er = 0) : 0 ≤ Fa.idx d t.2.text := by
  apply Classical.byContradiction
  intro h0
  by_cases h1 : R.er = 0
  · have : R.idx2 d t = R.fault 7 t.1 := by unfold Fa.RS.idx2; rw [if_pos ⟨h1, by omega⟩]
    rw [this, Fa.RS.fault_live h1] at h
    exact absurd h (show ¬ (7 : Int) = 0 by decide)
  · rw [Fa.RS.idx2_dead h1] at h
    exact h1 h

/-- what stands there while the reference parses a case -/
structure CS (w W : World) (p q : Nat) (l : List Fa.T) (e : Nat) (R : Fa.RS) (d : Fa.Dom) (c : List Int) (g : List (List UInt8)) (v vd : Value) : Prop where
  rd : Rd W p l e R v
  nums : W.ownsRow (p + 1) 3 1 (.slice (some ⟨p + 1, 0, none⟩) d.length d.length) d.length (c.flatMap numC)
  seen : W.ownsRow (p + 2) 4 1 (.slice (some ⟨q, 0, none⟩) d.length d.length) d.length ((seenL d g).flatMap boolC)
  dom : BoxD w W vd d
  p : w.heap.size < p
section
variable {w W W' : World} {p q : Nat} {l : List Fa.T} {e : Nat} {R R' : Fa.RS} {d : Fa.Dom} {c : List Int} {g : List (List UInt8)} {v vd : Value}
theorem CS.step (h : CS w W p q l e R d c g v vd) (hs : SlOf w vd 4 factC d) (hr : Rd W' p l e R' v) (ht : Tch (fun b => b = p) W W') : CS w W' p q l e R' d c g v vd := by
  have hp := h.p
  have hb : Below w.heap.size w W' := h.dom.below.trans (ht.below h.dom.below.size fun k hk => by have e' : k = p := hk; omega)
  refine ⟨hr, ownsRow_tch h.nums ht fun r hq e => ?_, ownsRow_tch h.seen ht fun r hq e => ?_, ⟨h.dom.one.tch' ht (by show ¬ w.heap.size = p; omega), hs.below hb, hb⟩, hp⟩
  · have := (h.nums.lt r hq).1; have e' : r = p := e; omega
  · have := (h.seen.lt r hq).1; have e' : r = p := e; omega
theorem CS.low (h : CS w W p q l e R d c g v vd) (hb : Below W.heap.size W W') : CS w W' p q l e R d c g v vd :=
  ⟨h.rd.below hb, ownsRow_below h.nums hb, ownsRow_below h.seen hb, h.dom.step hb, h.p⟩
theorem CS.big (h : CS w W p q l e R d c g v vd) : p + 2 ≤ q ∧ q < W.heap.size := h.seen.lt q rfl
end
/-- where the reading stands -/
def CSt (s : List UInt8) (l : List Fa.T) (R : Fa.RS) (d : Fa.Dom) (c : List Int) (g : List (List UInt8)) : Prop := (R.er = 0 ∧ Fa.AtC d s l c g R.k ∧ Fa.FitTo d c g) ∨ (R.er ≠ 0 ∧ Fa.parseCase d s = ([], R.er, R.at_) ∧ c.length = d.length)
theorem lexc_err {s : List UInt8} {d : Fa.Dom} {l : List Fa.T} {x y : Int} (hv : Fa.valid d = true) (h : Lx.lex s = (l, x, y)) (hs : s.length ≤ 4500) : (x ≠ 0 → Fa.parseCase d s = ([], x, y)) ∧ (x = 0 → y = 0) := by
  refine ⟨fun hx => ?_, (Fa.lex_toks (by omega) h).2.2.2.2.2⟩
  unfold Fa.parseCase
  rw [if_pos hv, h]
  simp only
  rw [if_pos hx]
theorem FitTo_start (d : Fa.Dom) : Fa.FitTo d (List.replicate d.length 0) [] := ⟨by simp, List.nodup_nil, (fun a h => by cases h), (fun k f hf h => by cases h)⟩

set_option maxRecDepth 100000 in
set_option maxHeartbeats 16000000 in
theorem rParseCase_any (d : Fa.Dom) (vf : Value) (s : List UInt8) (w : World) (h : SlOf w vf 4 factC d) (hn : ∀ f ∈ d, f.name.length ≤ 5000) (hd : d.length ≤ 5000) (hs : s.length ≤ 4500) :
    Calls Tryz.prog 9 #[.agg #[vf], .string (bs s)] w (CaseP w (Fa.parseCase d s)) := by
  obtain ⟨i0, hi0, hz0, hzz1, hzz2⟩ := info_parts Tryz.infoInt
  obtain ⟨i1, hi1, hy0, hyy1, hyy2⟩ := info_parts Tryz.infoBool
  obtain ⟨W1, hW1⟩ : ∃ W1, W1 = w.alloc (.cells #[vf] 24) := ⟨_, rfl⟩
  have H1 := hid (BoxD.start h hW1)
  have HSL := hid h
  obtain ⟨va, cap, rfl, k1, k2, -⟩ := h
  have hd2 : d.length ≤ 9223372036854775807 := by omega
  have hd5 : d.length ≤ 5000 := hd
  have HVC := hid (rValid_any d _ W1 H1.out.sl hn)
  have HLX := hid (fun W => rlex_any (bs s) W (by rw [bs_size]; unfold maxLen; omega))
  have hsz : (bs s).size ≤ 9223372036854775807 := by rw [bs_size]; omega
  have HS := hid hs
  have c1 := H1.out.one.cell
  have z1 := H1.out.one.lt
  clear hn hd hs k1 k2
  go_enter Tryz.func9, Tryz.ntmps9
  go_upto_region 1 with (fail)
  rw [← hW1]
  clear hW1
  go_wp2_with fail
  refine (HVC.out).mono ?_
  rintro e w2 ⟨rfl, hb2⟩
  have H2 := hid (H1.out.step hb2)
  clear hb2 c1 z1
  cases hv : Fa.valid d with
  | false =>
    have HE := hid (show Fa.parseCase d s = ([], 1, 0) by unfold Fa.parseCase; rw [hv]; rfl)
    clear hv
    go_wp2_with fail
    go_ret3
    rw [HE.out]
    exact ⟨_, rfl, SlIn.nil _ _ _ _, H2.out.below⟩
  | true =>
  have HV := hid hv
  clear hv
  rcases hx : Lx.lex s with ⟨l, x, y⟩
  have HL2 := hid (HLX.out w2)
  rw [bs_list, hx] at HL2
  have HLE := hid (lexc_err HV.out hx HS.out)
  have HX := hid hx
  clear hx
  go_wp2_with fail
  refine (HL2.out).mono ?_
  rintro en w3 ⟨v3, rfl, ho3, hb3⟩
  obtain ⟨tva, tcap, rfl⟩ := ownsRow_slice ho3
  have H3 := hid (H2.out.step hb3)
  have HTK := hid (show SlIn w3 (.slice tva l.length tcap) (fun b => w2.heap.size ≤ b ∧ b < w3.heap.size) 4 tkC l from toks_in ho3)
  have hw23 : w.heap.size < w2.heap.size := H2.out.one.lt
  have hw33 : w2.heap.size ≤ w3.heap.size := hb3.size
  clear ho3 hb3
  by_cases hx0 : ¬ x = 0
  · have hx1 : (x != 0) = true := by rw [bne_iff_ne]; exact hx0
    have HE := hid (HLE.out.1 hx0)
    clear hx0
    go_wp2_with fail
    go_ret3
    rw [HE.out]
    exact ⟨_, rfl, SlIn.nil _ _ _ _, H3.out.below⟩
  have hx0 := Classical.not_not.1 hx0
  obtain rfl : y = 0 := HLE.out.2 hx0
  subst hx0
  have HAT := hid (Fa.AtC.start HV.out HX.out)
  have HPL := hid (show ∀ k, ∀ q ∈ l.drop k, q.1 ≤ s.length from fun k q hq => (Fa.lex_toks (by have := HS.out; omega) HX.out).2.1 q (List.mem_of_mem_drop hq))
  have c3 := H3.out.one.cell
  have z3 := H3.out.one.lt
  obtain ⟨W4, hW4⟩ : ∃ W4, W4 = w3.alloc (.cells #[.slice tva l.length tcap, .int .i64 0, .int .i64 ((bs s).size : Int), .int .i64 0, .int .i64 0] 66) := ⟨_, rfl⟩
  have hb4 : Below w3.heap.size w3 W4 := by rw [hW4]; exact below_new w3 _
  have hz4 : W4.heap.size = w3.heap.size + 1 := by rw [hW4, World.size_alloc]
  have HRd := hid (show Rd W4 w3.heap.size l s.length ⟨0, 0, 0⟩ (.slice tva l.length tcap) from
    ⟨(HTK.out.below hb4).mono fun k hk _ => hk.2, by rw [hW4, ← bs_size]; exact alloc_new w3 _, Nat.zero_le _⟩)
  have H4 := hid (H3.out.step hb4)
  clear hb4 c3 z3
  go_upto_region 7 with (fail)
  rw [← hW4]
  clear hW4
  obtain ⟨p, hp⟩ : ∃ p, p = w3.heap.size := ⟨_, rfl⟩
  rw [← hp] at HRd hz4
  have hwp : w.heap.size < p := by omega
  rw [← hp]
  have c4 := H4.out.one.cell
  have z4 := H4.out.one.lt
  obtain ⟨W5, hmk5, hown5, hg5⟩ := run_make_full (P := Tryz.prog) (w := W4) (p + 1) 26 3 i0 (.int .i64 0) 1 Tryz.underlying26 hi0 hz0 hzz1 .i64 .i64 d.length (by rw [hzz2]; omega) (by unfold maxLen; omega) (by omega)
  have hb5 : Below W4.heap.size W4 W5 := Below.grown (Below.refl _ W4) hg5 (Nat.le_refl _) (fun r e => by cases e)
  rw [made_ints] at hown5
  have hm5 := (hown5.lt W4.heap.size rfl).2
  have H5 := hid (H4.out.step hb5)
  have HRd5 := hid (HRd.out.below hb5)
  rw [hz4] at hown5 hm5
  go_upto_region 8 with (fail)
  rw [← hp]
  have c5 := H5.out.one.cell
  have z5 := H5.out.one.lt
  clear c4 z4 hmk5
  obtain ⟨W6, hmk6, hown6, hg6⟩ := run_make_full (P := Tryz.prog) (w := W5) (p + 2) 69 4 i1 (.bool false) 1 Tryz.underlying69 hi1 hy0 hyy1 .i64 .i64 d.length (by rw [hyy2]; omega) (by unfold maxLen; omega) (by omega)
  have hb6 : Below W5.heap.size W5 W6 := Below.grown (Below.refl _ W5) hg6 (Nat.le_refl _) (fun r e => by cases e)
  rw [made_bools] at hown6
  obtain ⟨q, hq⟩ : ∃ q, q = W5.heap.size := ⟨_, rfl⟩
  have hCS := hid (show CS w W6 p q l s.length ⟨0, 0, 0⟩ d (List.replicate d.length 0) [] (.slice tva l.length tcap) (.slice va d.length cap) from
    ⟨HRd5.out.below hb6, ownsRow_below hown5 hb6, by rw [seenL_nil, hq]; exact hown6, H5.out.step hb6, hwp⟩)
  clear hown5 hg5 hb5 hg6 hb6 hown6
  go_upto_region 9 with (fail)
  rw [← hq]
  clear hmk6 hq c5 z5 hp hz4 hx0 hm5
  go_loopw [13, 14, 15] (fun v13 v14 v15 wr => ∃ (R : Fa.RS) (c : List Int) (g : List (List UInt8)), Hid (CS w wr p q l s.length R d c g (.slice tva l.length tcap) (.slice va d.length cap)) ∧ Hid (CSt s l R d c g)) (fun _ _ _ wr => leftAt l.length wr p)
  case atStart => exact ⟨⟨0, 0, 0⟩, _, _, hCS, .inl ⟨rfl, HAT.out, FitTo_start d⟩⟩
  case round =>
    clear hCS
    obtain ⟨R, c, g, HC, HT⟩ := hrel
    obtain ⟨c0, c1, c2, c3, c4, cf⟩ := HC.out.rd.cells
    have hp := HC.out.rd.lt
    have hl0 : l.length ≤ 9223372036854775807 := by
      obtain ⟨a', cap', ea, h2, h3, -⟩ := HC.out.rd.toks
      unfold maxLen at h3
      omega
    have HSLW : Hid (∀ W, Below w.heap.size w W → SlOf W (.slice va d.length cap) 4 factC d) := fun W hW => HSL.out.below hW
    have HST : Hid (∀ W W' R' R'' c' g', CS w W p q l s.length R' d c' g' (.slice tva l.length tcap) (.slice va d.length cap) → Rd W' p l s.length R'' (.slice tva l.length tcap) → Tch (fun b => b = p) W W' → CS w W' p q l s.length R'' d c' g' (.slice tva l.length tcap) (.slice va d.length cap)) := fun W W' R' R'' c' g' h hr ht => h.step HSL.out hr ht
    have hpq : p + 2 ≤ q := HC.out.big.1
    clear cf
    by_cases h0 : R.er = 0
    · have d0 : (R.er == 0) = true := by rw [h0]; rfl
      have HA : Hid (Fa.AtC d s l c g R.k ∧ Fa.FitTo d c g) := by
        rcases HT.out with h | h
        · exact h.2
        · exact absurd h0 h.1
      by_cases hk : R.k < l.length
      · have hk1 : decide ((R.k : Int) < (l.length : Int)) = true := decide_eq_true (by omega)
        have hk2 : (R.k : Int) < (l.length : Int) := by omega
        have HSM := hid (Fa.RS.val_same h0 l s.length d g)
        have HLE2 := hid (show leftAt l.length wr p = 1 + (l.length - R.k) by unfold leftAt; rw [HC.out.rd.errAt, HC.out.rd.nextAt, if_pos h0])
        have HK := hid hk
        obtain ⟨r0, hr0⟩ : ∃ r0, r0 = R.sep l s.length := ⟨_, rfl⟩
        obtain ⟨q1, hq1⟩ : ∃ q1, q1 = r0.take l s.length 1 [] := ⟨_, rfl⟩
        obtain ⟨R2, hR2⟩ : ∃ R2, R2 = q1.2.idx2 d q1.1 := ⟨_, rfl⟩
        obtain ⟨R3, hR3⟩ : ∃ R3, R3 = R2.gone3 g q1.1 := ⟨_, rfl⟩
        obtain ⟨q4, hq4⟩ : ∃ q4, q4 = R3.take l s.length 4 [61] := ⟨_, rfl⟩
        obtain ⟨q5, hq5⟩ : ∃ q5, q5 = q4.2.take l s.length 2 [] := ⟨_, rfl⟩
        obtain ⟨R6, hR6⟩ : ∃ R6, R6 = q5.2.in6 d (Fa.idx d q1.1.2.text) q5.1 := ⟨_, rfl⟩
        have HVAL := hid (show R.val l s.length d g = ((q1.1, q5.1), R6) by rw [hR6, hq5, hq4, hR3, hR2, hq1, hr0]; rfl)
        have HER2 := hid (show R2.er = 0 → 0 ≤ Fa.idx d q1.1.2.text from fun h => idx2_er (R := q1.2) (by rw [← hR2]; exact h))
        have HER5 := hid (show q5.2.er = 0 → 0 ≤ Fa.idx d q1.1.2.text from fun h => by
          have h1 : q4.2.er = 0 := take_er (by rw [← hq5]; exact h)
          have h2 : R3.er = 0 := take_er (by rw [← hq4]; exact h1)
          exact HER2.out (gone_er (by rw [← hR3]; exact h2)))
        have K1 := hid (fun W (hW : Rd W p l s.length r0 (.slice tva l.length tcap)) => take_lit 1 1 ⟨#[]⟩ [] rfl rfl W p l s.length r0 _ hW)
        rw [← hq1] at K1
        have K4 := hid (fun W (hW : Rd W p l s.length R3 (.slice tva l.length tcap)) => take_lit 4 4 ⟨#[61]⟩ [61] rfl rfl W p l s.length R3 _ hW)
        rw [← hq4] at K4
        have K5 := hid (fun W (hW : Rd W p l s.length q4.2 (.slice tva l.length tcap)) => take_lit 2 2 ⟨#[]⟩ [] rfl rfl W p l s.length q4.2 _ hW)
        rw [← hq5] at K5
        have HR0 := hid hr0
        have HR2 := hid hR2
        have HR3 := hid hR3
        have HR6 := hid hR6
        clear hr0 hq1 hR2 hR3 hq4 hq5 hR6 h0 hk
        go_upto_region 10 with (fail)
        go_cut [57, 58, 59, 60, 61] from 62 to 145 (fun v57 v58 v59 v60 v61 wx => v61 = .bool (decide (0 < R.k)) ∧ wx = wr)
        case first =>
          have d1 : decide ((0 : Int) < (R.k : Int)) = decide (0 < R.k) := by rw [decide_eq_decide]; omega
          go_wp2_with fail
          go_meet
          case rel => exact ⟨by first | rfl | exact congrArg Value.bool d1, rfl⟩
        case rest =>
        obtain ⟨rfl, hwx⟩ := hcut
        rw [hwx]
        clear hwx
        go_step
        go_cut [] from 61 to 145 (fun wx => Hid (CS w wx p q l s.length r0 d c g (.slice tva l.length tcap) (.slice va d.length cap)))
        case first =>
          by_cases hc : 0 < R.k
          · have HE := hid (show r0 = (R.take l s.length 4 [44]).2 by rw [HR0.out]; unfold Fa.RS.sep; rw [if_pos hc])
            rw [decide_eq_true hc]
            clear hc
            go_wp2_with fail
            refine (take_lit 4 4 ⟨#[44]⟩ [44] rfl rfl wr p l s.length R _ HC.out.rd).mono ?_
            rintro en w6 ⟨rfl, hr6, ht6⟩
            go_wp2_with fail
            go_meet
            case rel => rw [HE.out]; exact HST.out _ _ _ _ _ _ HC.out hr6 ht6
          · have HE := hid (show r0 = R by rw [HR0.out]; unfold Fa.RS.sep; rw [if_neg hc])
            rw [decide_eq_false hc]
            clear hc
            go_wp2_with fail
            go_meet
            case rel => rw [HE.out]; exact HC.out
        case rest =>
        rename World => Wa
        have HCa := hid hcut.out
        clear hcut c0 c1 c2 c3 c4 hp d0 hk1
        go_upto_region 12 with (fail)
        go_wp2_with fail
        refine (K1.out Wa HCa.out.rd).mono ?_
        rintro en w7 ⟨rfl, hr7, ht7⟩
        obtain ⟨t1, R1⟩ := q1
        unfold tkV
        simp only at hr7 HVAL HER2 HER5 HR2 HR3 HR6 ⊢
        obtain ⟨W8, hW8⟩ : ∃ W8, W8 = w7.alloc (.cells #[.int .i64 t1.2.kind, .int .i64 t1.1, .int .i64 t1.2.n, .string (bs t1.2.text)] 58) := ⟨_, rfl⟩
        have hb8 : Below w7.heap.size w7 W8 := by rw [hW8]; exact below_new w7 _
        have HC7 := hid (HST.out _ _ _ _ _ _ HCa.out hr7 ht7)
        have HC8 := hid (HC7.out.low hb8)
        have HT8 := hid (show tokB W8 w7.heap.size t1 by rw [hW8]; exact tokB.mk w7 t1)
        have hp7 : p < w7.heap.size := HC7.out.rd.lt
        have hq7 : q < w7.heap.size := HC7.out.big.2
        clear hr7 ht7 hb8
        go_upto_region 13 with (fail)
        rw [← hW8]
        clear hW8
        obtain ⟨x0, x1, x2, x3, xz⟩ := HT8.out.cells
        have b0 := HC8.out.dom.one.cell
        have bz := HC8.out.dom.one.lt
        have HIX := hid (rIndex_any d (.slice va d.length cap) t1.2.text W8 HC8.out.dom.sl)
        go_wp2_with fail
        refine (HIX.out).mono ?_
        rintro en w9 ⟨rfl, hb9⟩
        have HC9 := hid (HC8.out.low hb9)
        have HT9 := hid (HT8.out.tch (Tch.of_below hb9 (fun _ => False)) (fun e => e))
        clear hb9 x0 x1 x2 x3 xz b0 bz
        obtain ⟨I, hI⟩ : ∃ I, I = Fa.idx d t1.2.text := ⟨_, rfl⟩
        rw [← hI] at HER2 HER5 HR6 ⊢
        have HI := hid hI
        clear hI
        go_upto_region 14 with (fail)
        go_cut [70, 71, 72, 73, 74, 75, 76, 77, 78] from 79 to 145 (fun v70 v71 v72 v73 v74 v75 v76 v77 v78 wx => v78 = .bool (decide (R1.er = 0 ∧ I < 0)) ∧ wx = w9)
        case first =>
          obtain ⟨c0, c1, c2, c3, c4, cf⟩ := HC9.out.rd.cells
          have hp := HC9.out.rd.lt
          clear cf
          by_cases h0 : R1.er = 0
          · have d0 : (R1.er == 0) = true := by rw [h0]; rfl
            have HE := hid (show decide (I < 0) = decide (R1.er = 0 ∧ I < 0) by rw [decide_eq_decide]; exact ⟨fun h => ⟨h0, h⟩, fun h => h.2⟩)
            clear h0
            go_wp2_with fail
            go_meet
            case rel => exact ⟨congrArg Value.bool HE.out, rfl⟩
          · have d0 : (R1.er == 0) = false := by rw [beq_eq_false_iff_ne]; exact h0
            have HE := hid (show false = decide (R1.er = 0 ∧ I < 0) from (decide_eq_false (fun h => h0 h.1)).symm)
            clear h0
            go_wp2_with fail
            go_meet
            case rel => exact ⟨congrArg Value.bool HE.out, rfl⟩
        case rest =>
        obtain ⟨rfl, hwx⟩ := hcut
        rw [hwx]
        clear hwx
        go_step
        go_cut [] from 78 to 145 (fun wx => Hid (CS w wx p q l s.length R2 d c g (.slice tva l.length tcap) (.slice va d.length cap) ∧ tokB wx w7.heap.size t1))
        case first =>
          by_cases hc : R1.er = 0 ∧ I < 0
          · have HE := hid (show R2 = R1.fault 7 t1.1 by rw [HR2.out]; unfold Fa.RS.idx2; rw [← HI.out, if_pos hc])
            rw [decide_eq_true hc]
            obtain ⟨x0, x1, x2, x3, xz⟩ := HT9.out.cells
            clear hc
            go_wp2_with fail
            refine (rFault_any 7 t1.1 w9 p l s.length R1 _ HC9.out.rd).mono ?_
            rintro en w6 ⟨rfl, hr6, ht6⟩
            go_wp2_with fail
            go_meet
            case rel => rw [HE.out]; exact ⟨HST.out _ _ _ _ _ _ HC9.out hr6 ht6, HT9.out.tch ht6 (by show ¬ w7.heap.size = p; omega)⟩
          · have HE := hid (show R2 = R1 by rw [HR2.out]; unfold Fa.RS.idx2; rw [← HI.out, if_neg hc])
            rw [decide_eq_false hc]
            clear hc
            go_wp2_with fail
            go_meet
            case rel => rw [HE.out]; exact ⟨HC9.out, HT9.out⟩
        case rest =>
        rename World => Wb
        have HCb := hid hcut.out.1
        have HTb := hid hcut.out.2
        clear hcut
        go_upto_region 16 with (fail)
        go_cut [14, 83, 84, 85, 86, 87, 88, 89, 90, 91, 92, 93] from 94 to 145 (fun v14 v83 v84 v85 v86 v87 v88 v89 v90 v91 v92 v93 wx => v14 = .int .i64 I ∧ v93 = .bool (decide (R2.er = 0 ∧ t1.2.text ∈ g)) ∧ wx = Wb)
        case first =>
          obtain ⟨c0, c1, c2, c3, c4, cf⟩ := HCb.out.rd.cells
          have hp := HCb.out.rd.lt
          clear cf
          by_cases h0 : R2.er = 0
          · have d0 : (R2.er == 0) = true := by rw [h0]; rfl
            have hi0 := HER2.out h0
            obtain ⟨i, f, hi, hf, hfn⟩ : ∃ (i : Nat) (f : Fa.Fact), I = (i : Int) ∧ d[i]? = some f ∧ f.name = t1.2.text := by
              have hm : t1.2.text ∈ d.map Fa.Fact.name := by
                apply Classical.byContradiction
                intro hno
                rw [HI.out, Fa.idx_no hno] at hi0
                omega
              obtain ⟨i, h1, h2, h3⟩ := Fa.idx_yes hm
              rw [List.getElem?_map] at h3
              obtain ⟨f, hf, hfn⟩ := Option.map_eq_some_iff.1 h3
              exact ⟨i, f, HI.out.trans h1, hf, hfn⟩
            have hi1 : i < d.length := (List.getElem?_eq_some_iff.1 hf).1
            obtain ⟨y0, -, yz⟩ := ownB_cell HCb.out.seen (seenL_at (g := g) hf)
            rw [hfn] at y0
            have HE := hid (show decide (t1.2.text ∈ g) = decide (R2.er = 0 ∧ t1.2.text ∈ g) by rw [decide_eq_decide]; exact ⟨fun h => ⟨h0, h⟩, fun h => h.2⟩)
            have hk0 : (0 : Int) ≤ I := by omega
            have hk3 : I < (d.length : Int) := by omega
            have hIN : I.toNat = i := by omega
            clear h0 hf hfn hi0 hi
            go_wp2_with fail
            go_meet
            case rel => exact ⟨rfl, congrArg Value.bool HE.out, rfl⟩
          · have d0 : (R2.er == 0) = false := by rw [beq_eq_false_iff_ne]; exact h0
            have HE := hid (show false = decide (R2.er = 0 ∧ t1.2.text ∈ g) from (decide_eq_false (fun h => h0 h.1)).symm)
            clear h0
            go_wp2_with fail
            go_meet
            case rel => exact ⟨rfl, congrArg Value.bool HE.out, rfl⟩
        case rest =>
        obtain ⟨rfl, rfl, hwx⟩ := hcut
        rw [hwx]
        clear hwx
        go_step
        go_cut [] from 93 to 145 (fun wx => Hid (CS w wx p q l s.length R3 d c g (.slice tva l.length tcap) (.slice va d.length cap)))
        case first =>
          by_cases hc : R2.er = 0 ∧ t1.2.text ∈ g
          · have HE := hid (show R3 = R2.fault 9 t1.1 by rw [HR3.out]; unfold Fa.RS.gone3; rw [if_pos hc])
            rw [decide_eq_true hc]
            obtain ⟨x0, x1, x2, x3, xz⟩ := HTb.out.cells
            clear hc
            go_wp2_with fail
            refine (rFault_any 9 t1.1 Wb p l s.length R2 _ HCb.out.rd).mono ?_
            rintro en w6 ⟨rfl, hr6, ht6⟩
            go_wp2_with fail
            go_meet
            case rel => rw [HE.out]; exact HST.out _ _ _ _ _ _ HCb.out hr6 ht6
          · have HE := hid (show R3 = R2 by rw [HR3.out]; unfold Fa.RS.gone3; rw [if_neg hc])
            rw [decide_eq_false hc]
            clear hc
            go_wp2_with fail
            go_meet
            case rel => rw [HE.out]; exact HCb.out
        case rest =>
        rename World => Wc
        have HCc := hid hcut.out
        clear hcut
        go_upto_region 18 with (fail)
        go_wp2_with fail
        refine (K4.out Wc HCc.out.rd).mono ?_
        rintro en w10 ⟨rfl, hr10, ht10⟩
        have HC10 := hid (HST.out _ _ _ _ _ _ HCc.out hr10 ht10)
        clear hr10 ht10
        go_wp2_with fail
        refine (K5.out w10 HC10.out.rd).mono ?_
        rintro en w11 ⟨rfl, hr11, ht11⟩
        obtain ⟨n, R5⟩ := q5
        unfold tkV
        simp only at hr11 HVAL HER5 HR6 ⊢
        obtain ⟨W12, hW12⟩ : ∃ W12, W12 = w11.alloc (.cells #[.int .i64 n.2.kind, .int .i64 n.1, .int .i64 n.2.n, .string (bs n.2.text)] 58) := ⟨_, rfl⟩
        have hb12 : Below w11.heap.size w11 W12 := by rw [hW12]; exact below_new w11 _
        have HC11 := hid (HST.out _ _ _ _ _ _ HC10.out hr11 ht11)
        have HC12 := hid (HC11.out.low hb12)
        have HT12 := hid (show tokB W12 w11.heap.size n by rw [hW12]; exact tokB.mk w11 n)
        have hp11 : p < w11.heap.size := HC11.out.rd.lt
        have hq11 : q < w11.heap.size := HC11.out.big.2
        clear hr11 ht11 hb12
        go_upto_region 20 with (fail)
        rw [← hW12]
        clear hW12
        go_cut [14, 102, 103, 104, 105, 106, 107, 108, 109, 110, 111, 112, 113, 114, 115, 116, 117, 118, 119, 120, 121, 122, 123, 124, 125, 126, 127, 128] from 129 to 145 (fun v14 v102 v103 v104 v105 v106 v107 v108 v109 v110 v111 v112 v113 v114 v115 v116 v117 v118 v119 v120 v121 v122 v123 v124 v125 v126 v127 v128 wx => v14 = .int .i64 I ∧ v128 = .bool (decide (R5.er = 0 ∧ Fa.outOf d I n = true)) ∧ Hid (Below W12.heap.size W12 wx))
        case first =>
          obtain ⟨c0, c1, c2, c3, c4, cf⟩ := HC12.out.rd.cells
          have hp := HC12.out.rd.lt
          obtain ⟨x0, x1, x2, x3, xz⟩ := HT12.out.cells
          have b0 := HC12.out.dom.one.cell
          have bz := HC12.out.dom.one.lt
          clear cf
          by_cases h0 : R5.er = 0
          · have d0 : (R5.er == 0) = true := by rw [h0]; rfl
            have hi0 := HER5.out h0
            obtain ⟨i, f, hi, hf⟩ : ∃ (i : Nat) (f : Fa.Fact), I = (i : Int) ∧ d[i]? = some f := by
              have hm : t1.2.text ∈ d.map Fa.Fact.name := by
                apply Classical.byContradiction
                intro hno
                rw [HI.out, Fa.idx_no hno] at hi0
                omega
              obtain ⟨i, h1, h2, h3⟩ := Fa.idx_yes hm
              obtain ⟨f, hf⟩ : ∃ f, d[i]? = some f := ⟨_, List.getElem?_eq_getElem h2⟩
              exact ⟨i, f, HI.out.trans h1, hf⟩
            have hi1 : i < d.length := (List.getElem?_eq_some_iff.1 hf).1
            obtain ⟨g2, o2, rfl, hg2, -, -, e2, e3⟩ := fact_cells HC12.out.dom.sl hf (Below.refl _ _)
            have hk0 : (0 : Int) ≤ I := by omega
            have hk3 : I < (d.length : Int) := by omega
            have hIN : I.toNat = i := by omega
            have HOU := hid (show Fa.outOf d I n = decide ((n.2.n : Int) < f.lo ∨ f.hi < (n.2.n : Int)) by unfold Fa.outOf; rw [hi, Int.toNat_natCast, hf])
            by_cases o1 : (n.2.n : Int) < f.lo
            · have o2 : decide ((n.2.n : Int) < f.lo) = true := decide_eq_true o1
              have HE := hid (show true = decide (R5.er = 0 ∧ Fa.outOf d I n = true) from (decide_eq_true ⟨h0, by rw [HOU.out]; exact decide_eq_true (.inl o1)⟩).symm)
              clear h0 hf hi0 hi o1
              go_quiet (fail)
              go_wp2_with fail
              go_meet
              case rel => exact ⟨rfl, congrArg Value.bool HE.out, Below.drewQ _ _⟩
            · have o2 : decide ((n.2.n : Int) < f.lo) = false := decide_eq_false o1
              by_cases o3 : f.hi < (n.2.n : Int)
              · have o4 : decide (f.hi < (n.2.n : Int)) = true := decide_eq_true o3
                have HE := hid (show true = decide (R5.er = 0 ∧ Fa.outOf d I n = true) from (decide_eq_true ⟨h0, by rw [HOU.out]; exact decide_eq_true (.inr o3)⟩).symm)
                clear h0 hf hi0 hi o1 o3
                go_quiet (fail)
                go_wp2_with fail
                go_meet
                case rel => exact ⟨rfl, congrArg Value.bool HE.out, Below.drewQ _ _⟩
              · have o4 : decide (f.hi < (n.2.n : Int)) = false := decide_eq_false o3
                have HE := hid (show false = decide (R5.er = 0 ∧ Fa.outOf d I n = true) from (decide_eq_false (fun h => by have h2 := h.2; rw [HOU.out] at h2; have h3 := of_decide_eq_true h2; omega)).symm)
                clear h0 hf hi0 hi o1 o3
                go_quiet (fail)
                go_wp2_with fail
                go_meet
                case rel => exact ⟨rfl, congrArg Value.bool HE.out, Below.drewQ _ _⟩
          · have d0 : (R5.er == 0) = false := by rw [beq_eq_false_iff_ne]; exact h0
            have HE := hid (show false = decide (R5.er = 0 ∧ Fa.outOf d I n = true) from (decide_eq_false (fun h => h0 h.1)).symm)
            clear h0
            go_quiet (fail)
            go_wp2_with fail
            go_meet
            case rel => exact ⟨rfl, congrArg Value.bool HE.out, Below.drewQ _ _⟩
        case rest =>
        obtain ⟨rfl, rfl, hbd⟩ := hcut
        rename World => Wd
        have HCd := hid (HC12.out.low hbd.out)
        have HTd := hid (HT12.out.tch (Tch.of_below hbd.out (fun _ => False)) (fun e => e))
        clear hbd
        go_step
        go_cut [] from 128 to 145 (fun wx => Hid (CS w wx p q l s.length R6 d c g (.slice tva l.length tcap) (.slice va d.length cap) ∧ tokB wx w11.heap.size n))
        case first =>
          by_cases hc : R5.er = 0 ∧ Fa.outOf d I n = true
          · have HE := hid (show R6 = R5.fault 10 n.1 by rw [HR6.out]; unfold Fa.RS.in6; rw [if_pos hc])
            rw [decide_eq_true hc]
            obtain ⟨x0, x1, x2, x3, xz⟩ := HTd.out.cells
            clear hc
            go_wp2_with fail
            refine (rFault_any 10 n.1 Wd p l s.length R5 _ HCd.out.rd).mono ?_
            rintro en w6 ⟨rfl, hr6, ht6⟩
            go_wp2_with fail
            go_meet
            case rel => rw [HE.out]; exact ⟨HST.out _ _ _ _ _ _ HCd.out hr6 ht6, HTd.out.tch ht6 (by show ¬ w11.heap.size = p; omega)⟩
          · have HE := hid (show R6 = R5 by rw [HR6.out]; unfold Fa.RS.in6; rw [if_neg hc])
            rw [decide_eq_false hc]
            clear hc
            go_wp2_with fail
            go_meet
            case rel => rw [HE.out]; exact ⟨HCd.out, HTd.out⟩
        case rest =>
        rename World => We
        have HCe := hid hcut.out.1
        have HTe := hid hcut.out.2
        clear hcut
        go_upto_region 22 with (fail)
        obtain ⟨c0, c1, c2, c3, c4, cf⟩ := HCe.out.rd.cells
        have hp := HCe.out.rd.lt
        obtain ⟨x0, x1, x2, x3, xz⟩ := HTe.out.cells
        have HSM2 := HSM.out
        rw [HVAL.out] at HSM2
        simp only at HSM2
        clear cf
        cases hvp : Fa.valP d g (decide (R.k = 0)) s.length (l.drop R.k) with
        | error xx =>
          obtain ⟨a, b⟩ := xx
          rw [hvp] at HSM2
          have ha : a ≠ 0 := by have := (Fa.valP_err hvp (HPL.out R.k)).1; omega
          obtain ⟨e1, e2⟩ := HSM2 ha
          have d0 : (R6.er == 0) = false := by rw [e1, beq_eq_false_iff_ne]; exact ha
          have HBAD := hid (HA.out.1.bad HK.out hvp)
          have HE1 := hid e1
          have HE2 := hid e2
          have HNA := hid ha
          clear hvp HSM2 e1 e2 ha
          go_wp2_with fail
          go_roundw
          case rel =>
            refine ⟨R6, c, g, HCe, .inr ⟨by rw [HE1.out]; exact HNA.out, ?_, HA.out.2.len⟩⟩
            rw [HE1.out, HE2.out]
            exact HBAD.out
          case measure =>
            rw [HLE2.out]
            unfold leftAt
            rw [HCe.out.rd.errAt, if_neg (by rw [HE1.out]; exact HNA.out)]
            omega
        | ok yy =>
          obtain ⟨⟨i', v, a⟩, rest⟩ := yy
          rw [hvp] at HSM2
          obtain ⟨e1, e2, e3, k', hk', e4, e5⟩ := HSM2
          have e1' : t1.2.text = a := e1
          obtain ⟨i, f, rfl, hix, hf, hfn, hlo, hhi, hgn, -, -⟩ := Fa.valP_out hvp
          have hII : I = (i : Int) := by rw [HI.out, e1']; exact hix
          have hi1 : i < d.length := (List.getElem?_eq_some_iff.1 hf).1
          have d0 : (R6.er == 0) = true := by rw [e5]; rfl
          have hclen : c.length = d.length := HA.out.2.len
          obtain ⟨x, hx⟩ : ∃ x, c[i]? = some x := ⟨_, List.getElem?_eq_getElem (by rw [hclen]; exact hi1)⟩
          obtain ⟨y0, y1, yz⟩ := ownI_cell HCe.out.nums hx
          obtain ⟨u0, u1, uz⟩ := ownB_cell HCe.out.seen (seenL_at (g := g) hf)
          have n1 : ¬ p + 1 = w11.heap.size := by omega
          have n2 : ¬ q = p + 1 := by omega
          have n3 : ¬ p + 1 = q := by omega
          have hk0 : (0 : Int) ≤ (i : Int) := by omega
          have hk3 : (i : Int) < (d.length : Int) := by omega
          have HSTEP := hid (HA.out.1.step (k' := k') HK.out hk' (by rw [hvp, e4]))
          have HFIT := hid (HA.out.2.step (Fa.valid_parts HV.out).2.1 hf hlo hhi (by rw [hfn]; exact hgn))
          have HSS := hid (seenL_set (Fa.valid_parts HV.out).2.1 (g := g) hf)
          have HE3 := hid e3
          have HE5 := hid e5
          have HFN := hid hfn
          have HK' := hid hk'
          rw [hII]
          clear hvp e1 e1' e2 e3 e4 e5 hix hf hfn hlo hhi hgn hII hx hk'
          go_wp2_with fail
          have hT1 : Tch (fun b => b = p + 1) We (We.setCell ⟨p + 1, i, none⟩ (.int .i64 n.2.n)) := (Tch.refl (fun b => b = p + 1) We).setCell (a := ⟨p + 1, i, none⟩) (.inl rfl) _
          have hT2 : Tch (fun b => b = q) (We.setCell ⟨p + 1, i, none⟩ (.int .i64 n.2.n)) ((We.setCell ⟨p + 1, i, none⟩ (.int .i64 n.2.n)).setCell ⟨q, i, none⟩ (.bool true)) := (Tch.refl (fun b => b = q) _).setCell (a := ⟨q, i, none⟩) (.inl rfl) _
          have hwp2 := HCe.out.p
          have hbw : Below w.heap.size w ((We.setCell ⟨p + 1, i, none⟩ (.int .i64 n.2.n)).setCell ⟨q, i, none⟩ (.bool true)) := (HCe.out.dom.below.setCell (by show w.heap.size ≤ p + 1; omega) _).setCell (by show w.heap.size ≤ q; omega) _
          have HCN := hid (show CS w ((We.setCell ⟨p + 1, i, none⟩ (.int .i64 n.2.n)).setCell ⟨q, i, none⟩ (.bool true)) p q l s.length R6 d (c.set i v) (g ++ [a]) (.slice tva l.length tcap) (.slice va d.length cap) from by
            refine ⟨(HCe.out.rd.tch hT1 fun b hb e => by have e' : b = p + 1 := e; omega).tch hT2 fun b hb e => by have e' : b = q := e; omega, ?_, ?_, ⟨(HCe.out.dom.one.tch' hT1 (by show ¬ w.heap.size = p + 1; omega)).tch' hT2 (by show ¬ w.heap.size = q; omega), HSL.out.below hbw, hbw⟩, hwp2⟩
            · have h1 := own_set HCe.out.nums i (n.2.n : Int)
              rw [HE3.out] at h1
              rw [HE3.out]
              exact ownsRow_tch h1 (by rw [HE3.out] at hT2; exact hT2) fun r hr e => by have hr' : p + 1 = r := Option.some.inj hr; have e' : r = q := e; omega
            · have h1 := ownsRow_tch HCe.out.seen hT1 fun r hr e => by have hr' : q = r := Option.some.inj hr; have e' : r = p + 1 := e; omega
              have h2 := ownB_set h1 i true
              rw [HSS.out, HFN.out] at h2
              exact h2)
          go_roundw
          case rel =>
            refine ⟨R6, c.set i v, g ++ [a], HCN, .inl ⟨by rw [HE5.out], ?_, ?_⟩⟩
            · rw [HE5.out]
              have h1 := HSTEP.out
              rw [Int.toNat_natCast] at h1
              exact h1
            · have h1 := HFIT.out
              rw [HFN.out] at h1
              exact h1
          case measure =>
            rw [HLE2.out]
            unfold leftAt
            have hk4 := HK'.out
            have hk5 := HK.out
            rw [HCN.out.rd.errAt, HCN.out.rd.nextAt, HE5.out]
            simp only [if_true]
            omega
      · have hk1 : decide ((R.k : Int) < (l.length : Int)) = false := decide_eq_false (by omega)
        have hk2 : ¬ (R.k : Int) < (l.length : Int) := by omega
        have hclen : c.length = d.length := HA.out.2.len
        have HFIN := hid (show ∀ RE, RE = endR R d g (bs s).size d.length → (RE.er ≠ 0 → Fa.parseCase d s = ([], RE.er, RE.at_)) ∧ (RE.er = 0 → Fa.parseCase d s = (c, 0, 0)) from fun RE hRE => by
          rw [endR_done HV.out HA.out.2 h0] at hRE
          have hdn := HA.out.1.done hk
          by_cases hl : g.length < d.length
          · rw [if_pos hl] at hRE hdn
            subst hRE
            rw [bs_size]
            exact ⟨fun _ => hdn, fun e => absurd e (show ¬ (11 : Int) = 0 by decide)⟩
          · rw [if_neg hl] at hRE hdn
            subst hRE
            exact ⟨fun e => absurd h0 e, fun _ => hdn⟩)
        clear h0 hk
        go_wp2_with fail
        go_loopw [16] (fun iv wx => ∃ j : Nat, j ≤ d.length ∧ iv = .int .i64 j ∧ Hid (CS w wx p q l s.length (endR R d g (bs s).size j) d c g (.slice tva l.length tcap) (.slice va d.length cap))) (fun iv _ => d.length - (RowKit.intOf iv).toNat)
        case atStart => exact ⟨0, Nat.zero_le _, rfl, by rw [endR_zero]; exact HC⟩
        case round =>
          clear c0 c1 c2 c3 c4 hp
          obtain ⟨j, hj, rfl, HJ⟩ := hrel
          rename World => wx
          obtain ⟨c0, c1, c2, c3, c4, cf⟩ := HJ.out.rd.cells
          have hp := HJ.out.rd.lt
          clear cf
          by_cases hlt : j < d.length
          · obtain ⟨f, hf⟩ : ∃ f, d[j]? = some f := ⟨_, List.getElem?_eq_getElem hlt⟩
            obtain ⟨y0, -, yz⟩ := ownB_cell HJ.out.seen (seenL_at (g := g) hf)
            have hk0 : (0 : Int) ≤ (j : Int) := by omega
            have hk3 : (j : Int) < (d.length : Int) := by omega
            by_cases hg : f.name ∈ g
            · rw [decide_eq_true hg] at y0
              have HE := hid (endR_seen (R := R) (n := (bs s).size) hf hg)
              clear hg hf
              go_wp2_with fail
              go_roundw
              case rel => exact ⟨j + 1, by omega, by go_num, by rw [HE.out]; exact HJ⟩
              case measure => simp [RowKit.intOf]; omega
            · rw [decide_eq_false hg] at y0
              have HE := hid (endR_miss (R := R) (n := (bs s).size) hf hg)
              have HFA := hid (rFault_any 11 ((bs s).size : Int) wx p l s.length _ _ HJ.out.rd)
              clear hg hf
              go_wp2_with fail
              refine (HFA.out).mono ?_
              rintro en w6 ⟨rfl, hr6, ht6⟩
              have HCN := hid (HST.out _ _ _ _ _ _ HJ.out hr6 ht6)
              go_wp2_with fail
              go_roundw
              case rel => exact ⟨j + 1, by omega, by go_num, by rw [HE.out]; exact HCN⟩
              case measure => simp [RowKit.intOf]; omega
          · have hje : j = d.length := by omega
            subst hje
            obtain ⟨RE, hRE⟩ : ∃ RE, RE = endR R d g (bs s).size d.length := ⟨_, rfl⟩
            rw [← hRE] at HJ c1 c3 c4
            have HF := hid (HFIN.out RE hRE)
            have HCL := hid hclen
            have hwp2 := HC.out.p
            clear hRE hclen hlt
            by_cases he : RE.er = 0
            · have d5 : (RE.er != 0) = false := by rw [he]; rfl
              have HE := hid (HF.out.2 he)
              clear he
              go_wp2_with fail
              go_ret3
              rw [HE.out]
              refine ⟨_, rfl, ?_, HJ.out.dom.below⟩
              have h1 := HJ.out.nums
              rw [← HCL.out] at h1 ⊢
              exact (SlIn.own (cells := numC) h1 fun x _ => rfl).mono fun k hk _ => by have hk' : p + 1 = k := Option.some.inj hk; omega
            · have d5 : (RE.er != 0) = true := by rw [bne_iff_ne]; exact he
              have HE := hid (HF.out.1 he)
              clear he
              go_wp2_with fail
              go_quiet (fail)
              go_wp2_with fail
              go_ret3
              rw [HE.out]
              exact ⟨_, rfl, SlIn.nil _ _ _ _, Below.step HJ.out.dom.below (Below.drewQ _ _)⟩
    · have d0 : (R.er == 0) = false := by rw [beq_eq_false_iff_ne]; exact h0
      have HTT := hid (show Fa.parseCase d s = ([], R.er, R.at_) ∧ c.length = d.length from by
        rcases HT.out with h | h
        · exact absurd h.1 h0
        · exact h.2)
      have hclen : c.length = d.length := HTT.out.2
      have HFIN := hid (show ∀ RE, RE = endR R d g (bs s).size d.length → (RE.er ≠ 0 → Fa.parseCase d s = ([], RE.er, RE.at_)) ∧ (RE.er = 0 → Fa.parseCase d s = (c, 0, 0)) from fun RE hRE => by
        rw [endR_dead h0] at hRE
        subst hRE
        exact ⟨fun _ => HTT.out.1, fun e => absurd e h0⟩)
      clear h0
      go_wp2_with fail
      go_loopw [16] (fun iv wx => ∃ j : Nat, j ≤ d.length ∧ iv = .int .i64 j ∧ Hid (CS w wx p q l s.length (endR R d g (bs s).size j) d c g (.slice tva l.length tcap) (.slice va d.length cap))) (fun iv _ => d.length - (RowKit.intOf iv).toNat)
      case atStart => exact ⟨0, Nat.zero_le _, rfl, by rw [endR_zero]; exact HC⟩
      case round =>
        clear c0 c1 c2 c3 c4 hp
        obtain ⟨j, hj, rfl, HJ⟩ := hrel
        rename World => wx
        obtain ⟨c0, c1, c2, c3, c4, cf⟩ := HJ.out.rd.cells
        have hp := HJ.out.rd.lt
        clear cf
        by_cases hlt : j < d.length
        · obtain ⟨f, hf⟩ : ∃ f, d[j]? = some f := ⟨_, List.getElem?_eq_getElem hlt⟩
          obtain ⟨y0, -, yz⟩ := ownB_cell HJ.out.seen (seenL_at (g := g) hf)
          have hk0 : (0 : Int) ≤ (j : Int) := by omega
          have hk3 : (j : Int) < (d.length : Int) := by omega
          by_cases hg : f.name ∈ g
          · rw [decide_eq_true hg] at y0
            have HE := hid (endR_seen (R := R) (n := (bs s).size) hf hg)
            clear hg hf
            go_wp2_with fail
            go_roundw
            case rel => exact ⟨j + 1, by omega, by go_num, by rw [HE.out]; exact HJ⟩
            case measure => simp [RowKit.intOf]; omega
          · rw [decide_eq_false hg] at y0
            have HE := hid (endR_miss (R := R) (n := (bs s).size) hf hg)
            have HFA := hid (rFault_any 11 ((bs s).size : Int) wx p l s.length _ _ HJ.out.rd)
            clear hg hf
            go_wp2_with fail
            refine (HFA.out).mono ?_
            rintro en w6 ⟨rfl, hr6, ht6⟩
            have HCN := hid (HST.out _ _ _ _ _ _ HJ.out hr6 ht6)
            go_wp2_with fail
            go_roundw
            case rel => exact ⟨j + 1, by omega, by go_num, by rw [HE.out]; exact HCN⟩
            case measure => simp [RowKit.intOf]; omega
        · have hje : j = d.length := by omega
          subst hje
          obtain ⟨RE, hRE⟩ : ∃ RE, RE = endR R d g (bs s).size d.length := ⟨_, rfl⟩
          rw [← hRE] at HJ c1 c3 c4
          have HF := hid (HFIN.out RE hRE)
          have HCL := hid hclen
          have hwp2 := HC.out.p
          clear hRE hclen hlt
          by_cases he : RE.er = 0
          · have d5 : (RE.er != 0) = false := by rw [he]; rfl
            have HE := hid (HF.out.2 he)
            clear he
            go_wp2_with fail
            go_ret3
            rw [HE.out]
            refine ⟨_, rfl, ?_, HJ.out.dom.below⟩
            have h1 := HJ.out.nums
            rw [← HCL.out] at h1 ⊢
            exact (SlIn.own (cells := numC) h1 fun x _ => rfl).mono fun k hk _ => by have hk' : p + 1 = k := Option.some.inj hk; omega
          · have d5 : (RE.er != 0) = true := by rw [bne_iff_ne]; exact he
            have HE := hid (HF.out.1 he)
            clear he
            go_wp2_with fail
            go_quiet (fail)
            go_wp2_with fail
            go_ret3
            rw [HE.out]
            exact ⟨_, rfl, SlIn.nil _ _ _ _, Below.step HJ.out.dom.below (Below.drewQ _ _)⟩

end Go.Proofs.YteogmlgmodeajaaGreatDoor
