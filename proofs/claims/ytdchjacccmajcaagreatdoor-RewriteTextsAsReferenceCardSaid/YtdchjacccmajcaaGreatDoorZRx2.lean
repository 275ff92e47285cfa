/-
 The reference's reader of tables: its memory; fail, failAlso, next. Conditions: lengths.
-/
import Derived.Test.YtdchjacccmajcaaGreatDoorZRx1
import Derived.Test.YtdchjacccmajcaaGreatDoorZRv0
import Derived.BigRegion
namespace Go.Proofs.YtdchjacccmajcaaGreatDoor
open Go.RowKit Go.Maps Go.Lib

/-- a token of a slice, its cells -/
theorem tokx_cells {w wr : World} {va : Option Addr} {cap k : Nat} {l : List Fa.T} {t : Fa.T} (h : SlOf w (.slice va l.length cap) 4 tkcP l) (hk : l[k]? = some t) (hb : Below w.heap.size w wr) :
  ∃ g o, va = some ⟨g, o, none⟩ ∧ g < wr.heap.size ∧ wr.cell? ⟨g, o + k * 4, none⟩ = some (.int .i64 t.2.kind) ∧ wr.cell? ⟨g, o + k * 4 + 1, none⟩ = some (.int .i64 t.1) ∧ wr.cell? ⟨g, o + k * 4 + 2, none⟩ = some (.int .i64 t.2.n) ∧ wr.cell? ⟨g, o + k * 4 + 3, none⟩ = some (.string (bs t.2.text)) := by
 obtain ⟨a', cap', ea, _, _, h4⟩ := h
 cases ea
 obtain ⟨g, o, rfl, hr⟩ := h4 (by have := (List.getElem?_eq_some_iff.1 hk).1; omega)
 have hc := (hr.below hb).2 k t hk
 have e0 := hc 0 _ rfl
 rw [Nat.add_zero] at e0
 exact ⟨g, o, rfl, (hr.below hb).1, e0, hc 1 _ rfl, hc 2 _ rfl, hc 3 _ rfl⟩

/-- a reader of the reference in block p: it reads the tokens l, which lie ahead of it; e: the text's end -/
structure RdX (w : World) (p : Nat) (l : List Fa.T) (e : Nat) (R : Rw.RS) (v : Value) : Prop where
 toks : SlIn w v (fun b => b < p) 4 tkcP l
 box : w.heap[p]? = some (.cells #[v, .int .i64 R.k, .int .i64 e, .int .i64 R.er, .int .i64 R.at_] 119 (0, 0))
 k : R.k ≤ l.length
 l : l.length ≤ 5000
section
variable {w w' : World} {p e : Nat} {l : List Fa.T} {R R' : Rw.RS} {v : Value}
theorem RdX.tch {O : Nat → Prop} (h : RdX w p l e R v) (ht : Tch O w w') (ho : ∀ b, b ≤ p → ¬ O b) : RdX w' p l e R v :=
 ⟨h.toks.tch ht fun b hb => ho b (Nat.le_of_lt hb), (ht.block p (Array.getElem?_eq_some_iff.1 h.box).1 (ho p (Nat.le_refl _))).trans h.box, h.k, h.l⟩
theorem RdX.below (h : RdX w p l e R v) (hb : Below w.heap.size w w') : RdX w' p l e R v := h.tch (Tch.of_below hb (fun _ => False)) (fun _ _ e => e)
theorem RdX.lt (h : RdX w p l e R v) : p < w.heap.size := (Array.getElem?_eq_some_iff.1 h.box).1
theorem RdX.cells (h : RdX w p l e R v) : w.cell? ⟨p, 0, none⟩ = some v ∧ w.cell? ⟨p, 1, none⟩ = some (.int .i64 R.k) ∧ w.cell? ⟨p, 2, none⟩ = some (.int .i64 e) ∧ w.cell? ⟨p, 3, none⟩ = some (.int .i64 R.er) ∧ w.cell? ⟨p, 4, none⟩ = some (.int .i64 R.at_) ∧ (∀ j, w.frozen? ⟨p, j, none⟩ = false) :=
 ⟨by simp [World.cell?, h.box], by simp [World.cell?, h.box], by simp [World.cell?, h.box], by simp [World.cell?, h.box], by simp [World.cell?, h.box], fun j => frozen_of_row w p j _ _ h.box⟩
/-- the reader's own block is changed -/
theorem RdX.own (h : RdX w p l e R v) (ht : Tch (fun b => b = p) w w') (hb : w'.heap[p]? = some (.cells #[v, .int .i64 R'.k, .int .i64 e, .int .i64 R'.er, .int .i64 R'.at_] 119 (0, 0))) (hk : R'.k ≤ l.length) : RdX w' p l e R' v :=
 ⟨h.toks.tch ht fun b hb e => by have e' : b = p := e; omega, hb, hk, h.l⟩
end
/-- what a step of the reader ends in: it returns r; the reader stands at R' -/
def RdXP (w : World) (p : Nat) (l : List Fa.T) (e : Nat) (R' : Rw.RS) (v : Value) (r : Ending) (en : Ending) (w' : World) : Prop := en = r ∧ RdX w' p l e R' v ∧ Tch (fun b => b = p) w w'

set_option maxRecDepth 100000 in
set_option maxHeartbeats 4000000 in
theorem rfail_any10 (x : Int) (w : World) (p : Nat) (l : List Fa.T) (e : Nat) (R : Rw.RS) (v : Value) (h : RdX w p l e R v) (h1 : R.er = 0 → 1 ≤ R.k) : Calls Tryz.prog 102 #[.pointer (some ⟨p, 0, none⟩), .int .i64 x] w (RdXP w p l e (R.fail l x) v (.returned (.tuple #[]))) := by
 obtain ⟨c0, c1, c2, c3, c4, cf⟩ := h.cells
 have H := hid h
 have hp := h.lt
 have f3 := cf 3
 obtain ⟨va, cap, rfl⟩ := h.toks.slice
 by_cases h0 : R.er = 0
 ·have d0 : (R.er == 0) = true := by rw [h0]; rfl
  have HE := hid (Rw.RS.fail_live h0 l x)
  obtain ⟨m, hm⟩ : ∃ m, R.k = m + 1 := ⟨R.k - 1, by have := h1 h0; omega⟩
  have hml : m < l.length := by have := h.k; omega
  obtain ⟨t, ht⟩ : ∃ t, l[m]? = some t := ⟨_, List.getElem?_eq_getElem hml⟩
  have HT1 := hid (show (l.getD (R.k - 1) Rw.zT).1 = t.1 by rw [hm, Nat.add_sub_cancel, List.getD_eq_getElem?_getD, ht]; rfl)
  obtain ⟨W1, hW1⟩ : ∃ W1, W1 = w.setCell ⟨p, 3, none⟩ (.int .i64 x) := ⟨_, rfl⟩
  have hT1 : Tch (fun b => b = p) w W1 := by rw [hW1]; exact (Tch.refl (fun b => b = p) w).setCell (a := ⟨p, 3, none⟩) (.inl rfl) _
  have HR1 := hid (show RdX W1 p l e ⟨R.k, x, R.at_⟩ (.slice va l.length cap) from h.own hT1 (by rw [hW1]; exact blk_setP h.box 3 _) h.k)
  have HTT := hid hT1
  have HHT := hid ht
  have hl5 := h.l
  clear h h0 h1 ht hT1 cf
  go_enter Tryz.func102, Tryz.ntmps102
  go_upto_region 2 with (fail)
  rw [← hW1]
  clear hW1 c0 c1 c2 c3 c4 f3 hp
  obtain ⟨c0, c1, c2, c3, c4, cf⟩ := HR1.out.cells
  have hp := HR1.out.lt
  have f4 := cf 4
  simp only [hm] at c1
  rw [show ((m + 1 : Nat) : Int) = (m : Int) + 1 from rfl] at c1
  obtain ⟨g, o, rfl, hg, -, e1, -, -⟩ := tokx_cells HR1.out.toks.slOf HHT.out (Below.refl _ _)
  have e4 : IntKind.i64.wrap ((m : Int) + 1 - 1) = (m : Int) := by rw [show (m : Int) + 1 - 1 = (m : Int) by omega]; exact IntWalk.i64_in _ (by omega)
  have hk0 : (0 : Int) ≤ (m : Int) := by omega
  have hk1 : (m : Int) < (l.length : Int) := by omega
  have HM := hid hm
  clear cf hm c2 c3
  go_region
  go_wp2_with fail
  go_end0
  rw [HE.out]
  have hT2 : Tch (fun b => b = p) W1 (W1.setCell ⟨p, 4, none⟩ (.int .i64 t.1)) := (Tch.refl (fun b => b = p) W1).setCell (a := ⟨p, 4, none⟩) (.inl rfl) _
  have hR2 := HR1.out.own (R' := ⟨R.k, x, ((l.getD (R.k - 1) Rw.zT).1 : Nat)⟩) hT2 (by rw [HT1.out]; exact blk_setP HR1.out.box 4 _) HR1.out.k
  exact ⟨rfl, hR2.below (Below.refl _ _).drew, (HTT.out.trans hT2 fun k hk _ => hk).step (Below.refl _ _).drew⟩
 ·have d0 : (R.er == 0) = false := by rw [beq_eq_false_iff_ne]; exact h0
  have HE := hid (Rw.RS.fail_dead h0 l x)
  clear h h0 h1 cf
  go_enter Tryz.func102, Tryz.ntmps102
  go_wp2_with fail
  go_end0
  rw [HE.out]
  exact ⟨rfl, H.out, Tch.refl _ _⟩

set_option maxRecDepth 100000 in
set_option maxHeartbeats 4000000 in
theorem rfailAlso_any10 (x : Int) (w : World) (p : Nat) (l : List Fa.T) (e : Nat) (R : Rw.RS) (v : Value) (h : RdX w p l e R v) (h1 : R.er = 0 → 1 ≤ R.k) : Calls Tryz.prog 100 #[.pointer (some ⟨p, 0, none⟩), .int .i64 x] w (RdXP w p l e (R.fail l x) v (.returned (.tuple #[]))) := by
 obtain ⟨c0, c1, c2, c3, c4, cf⟩ := h.cells
 have H := hid h
 have hp := h.lt
 have HF := hid (rfail_any10 x w p l e R v h h1)
 by_cases h0 : R.er = 0
 ·have d0 : (R.er == 0) = true := by rw [h0]; rfl
  clear h h0 h1 cf
  go_enter Tryz.func100, Tryz.ntmps100
  go_wp2_with fail
  refine (HF.out).mono ?_
  rintro en w1 ⟨rfl, hr, ht⟩
  go_wp2_with fail
  go_end0
  exact ⟨rfl, hr, ht⟩
 ·have d0 : (R.er == 0) = false := by rw [beq_eq_false_iff_ne]; exact h0
  have HE := hid (Rw.RS.fail_dead h0 l x)
  clear h h0 h1 cf HF
  go_enter Tryz.func100, Tryz.ntmps100
  go_wp2_with fail
  go_end0
  rw [HE.out]
  exact ⟨rfl, H.out, Tch.refl _ _⟩

set_option maxRecDepth 100000 in
set_option maxHeartbeats 4000000 in
theorem rnext_any10 (x : List UInt8) (w : World) (p : Nat) (l : List Fa.T) (e : Nat) (R : Rw.RS) (v : Value) (h : RdX w p l e R v) : Calls Tryz.prog 66 #[.pointer (some ⟨p, 0, none⟩), .string (bs x)] w (Gives (.bool (R.next l x)) w) := by
 obtain ⟨c0, c1, c2, c3, c4, -⟩ := h.cells
 have hp := h.lt
 have hl5 := h.l
 obtain ⟨va, cap, rfl⟩ := h.toks.slice
 have HS := hid h.toks.slOf
 clear h
 by_cases h0 : R.er = 0
 ·have d0 : (R.er == 0) = true := by rw [h0]; rfl
  have H0 := hid h0
  clear h0
  by_cases hk : R.k < l.length
  ·obtain ⟨t, ht⟩ : ∃ t, l[R.k]? = some t := ⟨_, List.getElem?_eq_getElem hk⟩
   obtain ⟨g, o, rfl, hg, e0, e1, e2, e3⟩ := tokx_cells HS.out ht (Below.refl _ _)
   have hk0 : (0 : Int) ≤ (R.k : Int) := by omega
   have hk1 : (R.k : Int) < (l.length : Int) := by omega
   have d1 : decide ((R.k : Int) < (l.length : Int)) = true := decide_eq_true hk1
   have HE := hid (show R.next l x = (decide (t.2.kind = 1) && decide (t.2.text = x)) by unfold Rw.RS.next; rw [decide_eq_true H0.out, Bool.true_and, Rw.drop_at ht]; rfl)
   clear ht
   by_cases hd : t.2.kind = 1
   ·have d2 : ((t.2.kind : Int) == 1) = true := by rw [hd]; rfl
    obtain ⟨b, hb⟩ : ∃ b, b = decide (t.2.text = x) := ⟨_, rfl⟩
    have d4 := text_beq t.2.text x
    rw [← hb] at d4
    have HE2 := hid (show R.next l x = b by rw [HE.out, decide_eq_true hd, Bool.true_and, hb])
    clear hd hb HE
    go_enter Tryz.func66, Tryz.ntmps66
    go_wp2_with fail
    go_quiet (fail)
    go_wp2_with fail
    go_ret
    exact ⟨ret_bool HE2.out.symm, Below.drewQ _ _⟩
   ·have d2 : ((t.2.kind : Int) == 1) = false := by rw [beq_eq_false_iff_ne]; omega
    have HE2 := hid (show R.next l x = false by rw [HE.out, decide_eq_false hd, Bool.false_and])
    clear hd HE
    go_enter Tryz.func66, Tryz.ntmps66
    go_wp2_with fail
    go_quiet (fail)
    go_wp2_with fail
    go_ret
    exact ⟨ret_bool HE2.out.symm, Below.drewQ _ _⟩
  ·have d1 : decide ((R.k : Int) < (l.length : Int)) = false := decide_eq_false (by omega)
   have HE := hid (show R.next l x = false by unfold Rw.RS.next; rw [List.drop_eq_nil_of_le (by omega)]; show (decide (R.er = 0) && false) = false; simp)
   go_enter Tryz.func66, Tryz.ntmps66
   go_wp2_with fail
   go_quiet (fail)
   go_wp2_with fail
   go_ret
   exact ⟨ret_bool HE.out.symm, Below.drewQ _ _⟩
 ·have d0 : (R.er == 0) = false := by rw [beq_eq_false_iff_ne]; exact h0
  have HE := hid (show R.next l x = false by unfold Rw.RS.next; rw [decide_eq_false h0]; rfl)
  clear h0
  go_enter Tryz.func66, Tryz.ntmps66
  go_wp2_with fail
  go_quiet (fail)
  go_wp2_with fail
  go_ret
  exact ⟨ret_bool HE.out.symm, Below.drewQ _ _⟩

end Go.Proofs.YtdchjacccmajcaaGreatDoor
