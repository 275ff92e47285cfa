/-
 rewrite's parser of tables: its memory; need, is. Conditions: lengths.
-/
import Derived.Test.YtdchjacccmajcaaGreatDoorZMRp
import Derived.Test.YtdchjacccmajcaaGreatDoorZMLexA
import Derived.Test.YtdchjacccmajcaaGreatDoorZMBase
import Derived.Test.YtdchjacccmajcaaGreatDoorZMRr
namespace Go.Proofs.YtdchjacccmajcaaGreatDoor
open Go.RowKit Go.Maps Go.Lib

variable {B : Nat}

def tkcP (t : Fa.T) : List Value := [.int .i64 t.2.kind, .int .i64 t.1, .int .i64 t.2.n, .string (bs t.2.text)]
def tkvP (t : Fa.T) : Value := .agg #[.int .i64 t.2.kind, .int .i64 t.1, .int .i64 t.2.n, .string (bs t.2.text)]
theorem blk_setP {w : World} {g : Nat} {t : TypeId} {cs : Array Value} (h : w.heap[g]? = some (.cells cs t (0, 0))) (i : Nat) (u : Value) : (w.setCell ⟨g, i, none⟩ u).heap[g]? = some (.cells (cs.setIfInBounds i u) t (0, 0)) := by
 simp [World.setCell, Array.getElem?_modify, h]
theorem text_beq (a b : List UInt8) : ((bs a).toList == (bs b).toList) = decide (a = b) := by
 by_cases h : a = b
 ·subst h
  simp
 ·rw [decide_eq_false h, Bool.eq_false_iff]
  exact fun e => h (str_same e)

/-- a parser in block p: it reads the tokens l, the text's end is e, the last token stood at a -/
def PsW (B : Nat) (w : World) (p : Nat) (l : List Fa.T) (e a : Nat) : Prop :=
 ∃ ts, SlIn w ts (fun b => B < b ∧ b < p) 4 tkcP l ∧ w.heap[p]? = some (.cells #[ts, .int .i64 e, .int .i64 a] 113 (0, 0)) ∧ B < p
theorem PsW.tch {w w' : World} {p e a : Nat} {l : List Fa.T} {O : Nat → Prop} (h : PsW B w p l e a) (ht : Tch O w w') (ho : ∀ b, B < b → b ≤ p → ¬ O b) : PsW B w' p l e a := by
 obtain ⟨ts, h1, h2, h4⟩ := h
 exact ⟨ts, h1.tch ht fun b hb => ho b hb.1 (Nat.le_of_lt hb.2), (ht.block p (Array.getElem?_eq_some_iff.1 h2).1 (ho p h4 (Nat.le_refl _))).trans h2, h4⟩
theorem PsW.below {w w' : World} {p e a : Nat} {l : List Fa.T} (h : PsW B w p l e a) (hb : Below w.heap.size w w') : PsW B w' p l e a := h.tch (Tch.of_below hb (fun _ => False)) (fun _ _ _ e => e)

/-- what is thrown -/
def thrownP (x : Fa.Fail) : Ending := .panicked [{ v := .iface 109 (.agg #[.int .i64 x.1, .int .i64 x.2]), recovered := false }]
/-- it throws this, and all that was there is as it was but block p -/
def ThrowsP (w : World) (p : Nat) (x : Fa.Fail) (en : Ending) (w' : World) : Prop := en = thrownP x ∧ Tch (fun b => b = p) w w'

set_option maxRecDepth 100000 in
theorem need_yes (er a : Int) (w : World) : Calls Tryz.prog 63 #[.bool true, .int .i64 er, .int .i64 a] w (Gives (.tuple #[]) w) := by
 go_enter Tryz.func63, Tryz.ntmps63
 go_wp2
 go_end0
 exact ⟨rfl, Below.refl _ w⟩
set_option maxRecDepth 100000 in
theorem need_no (er a : Int) (w : World) : Calls Tryz.prog 63 #[.bool false, .int .i64 er, .int .i64 a] w (fun en w' => en = thrownP (er, a) ∧ Below w.heap.size w w') := by
 go_enter Tryz.func63, Tryz.ntmps63
 go_wp2
 exact ⟨rfl, rfl, Below.refl _ w⟩

set_option maxRecDepth 100000 in
set_option maxHeartbeats 4000000 in
theorem is_any10 (x : List UInt8) (w : World) (p : Nat) (l : List Fa.T) (e a : Nat) (h : PsW B w p l e a) (_hl : l.length ≤ 5000) : Calls Tryz.prog 92 #[.pointer (some ⟨p, 0, none⟩), .string (bs x)] w (Gives (.bool (Rw.isW x l)) w) := by
 obtain ⟨ts, h1, h2, hBp⟩ := h
 obtain ⟨va, cap, rfl, q1, q2, q3⟩ := h1
 have hpz : p < w.heap.size := (Array.getElem?_eq_some_iff.1 h2).1
 have c0 : w.cell? ⟨p, 0, none⟩ = some (.slice va l.length cap) := by simp [World.cell?, h2]
 clear h2
 cases l with
 | nil =>
  simp only [List.length_nil] at c0
  go_enter Tryz.func92, Tryz.ntmps92
  go_wp2_with fail
  go_ret
  exact ⟨rfl, Below.refl _ w⟩
 | cons t r =>
  obtain ⟨g, o, rfl, hgp, hr⟩ := q3 (by simp)
  have hc := hr.2 0 t rfl
  have e0 := hc 0 _ rfl
  have e3 := hc 3 _ rfl
  simp only [Nat.zero_mul, Nat.add_zero] at e0 e3
  have hg := hr.1
  obtain ⟨n, hn⟩ : ∃ n, n = (t :: r).length := ⟨_, rfl⟩
  have n0 : (0 : Int) < (n : Int) := by rw [hn, List.length_cons]; omega
  have n1 : decide ((0 : Int) < (n : Int)) = true := decide_eq_true n0
  rw [← hn] at c0
  have HE := hid (show Rw.isW x (t :: r) = (decide (t.2.kind = 1) && decide (t.2.text = x)) from rfl)
  clear hr hc q1 q3 hn
  by_cases hk : t.2.kind = 1
  ·have k1 : ((t.2.kind : Int) == (1 : Int)) = true := by rw [hk]; rfl
   have k2 := text_beq t.2.text x
   obtain ⟨b, hb⟩ : ∃ b, b = decide (t.2.text = x) := ⟨_, rfl⟩
   rw [← hb] at k2 HE
   have HE2 := hid (show Rw.isW x (t :: r) = b by rw [HE.out, decide_eq_true hk, Bool.true_and])
   clear hk hb HE
   go_enter Tryz.func92, Tryz.ntmps92
   go_wp2_with fail
   go_ret
   exact ⟨ret_bool HE2.out.symm, Below.refl _ w⟩
  ·have k1 : ((t.2.kind : Int) == (1 : Int)) = false := by rw [beq_eq_false_iff_ne]; omega
   have HE2 := hid (show Rw.isW x (t :: r) = false by rw [HE.out, decide_eq_false hk, Bool.false_and])
   clear hk HE
   go_enter Tryz.func92, Tryz.ntmps92
   go_wp2_with fail
   go_ret
   exact ⟨ret_bool HE2.out.symm, Below.refl _ w⟩

end Go.Proofs.YtdchjacccmajcaaGreatDoor
