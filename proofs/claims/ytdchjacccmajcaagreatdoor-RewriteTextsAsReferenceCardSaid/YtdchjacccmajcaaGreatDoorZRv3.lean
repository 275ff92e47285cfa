/-
 rewrite's parser of tables: slices.Index of words, script. Conditions: lengths.
-/
import Derived.Test.YtdchjacccmajcaaGreatDoorZMRv
import Derived.Test.YtdchjacccmajcaaGreatDoorZRn5
namespace Rw
/-- where a word stands, -1 if nowhere -/
def idxF : List (List UInt8) → List UInt8 → Nat → Int
 | [], _, _ => -1
 | y :: l, x, k => if x = y then (k : Int) else idxF l x (k + 1)
theorem idxF_at {l : List (List UInt8)} {x y : List UInt8} {k : Nat} (h : l[k]? = some y) : idxF (l.drop k) x k = if x = y then (k : Int) else idxF (l.drop (k + 1)) x (k + 1) := by
 obtain ⟨hk, e⟩ := List.getElem?_eq_some_iff.1 h
 rw [List.drop_eq_getElem_cons hk, e]
 rfl
def five : List (List UInt8) := [[], scrT 1, scrT 2, scrT 3, scrT 4]
theorem idx_five (x : List UInt8) : (scrI x = 0 → ¬ 0 < idxF five x 0) ∧ (scrI x ≠ 0 → idxF five x 0 = scrI x ∧ 0 < scrI x) := by
 have h1 : scrT 1 ≠ [] := by decide
 unfold scrI five
 simp only [idxF]
 by_cases h0 : x = []
 ·subst h0
  rw [if_pos rfl, if_neg (by decide), if_neg (by decide), if_neg (by decide), if_neg (by decide)]
  exact ⟨fun _ => by decide, fun h => absurd rfl h⟩
 ·rw [if_neg h0]
  by_cases e1 : x = scrT 1
  ·simp only [if_pos e1]
   exact ⟨fun h => by omega, fun _ => by decide⟩
  ·simp only [if_neg e1]
   by_cases e2 : x = scrT 2
   ·simp only [if_pos e2]
    exact ⟨fun h => by omega, fun _ => by decide⟩
   ·simp only [if_neg e2]
    by_cases e3 : x = scrT 3
    ·simp only [if_pos e3]
     exact ⟨fun h => by omega, fun _ => by decide⟩
    ·simp only [if_neg e3]
     by_cases e4 : x = scrT 4
     ·simp only [if_pos e4]
      exact ⟨fun h => by omega, fun _ => by decide⟩
     ·simp only [if_neg e4]
      exact ⟨fun _ => by decide, fun h => absurd rfl h⟩
end Rw
namespace Go.Proofs.YtdchjacccmajcaaGreatDoor
open Go.RowKit Go.Maps Go.Lib

variable {B : Nat}

set_option maxRecDepth 100000 in
set_option maxHeartbeats 4000000 in
theorem index_any10 (L : List (List UInt8)) (x : List UInt8) (v : Value) (w : World) (hv : SlOf w v 1 strC L) (hL : L.length ≤ 1000000) : Calls Tryz.prog 131 #[v, .string (bs x)] w (Gives (.int .i64 (Rw.idxF L x 0)) w) := by
 have HV := hid hv
 obtain ⟨va, vc, rfl, -⟩ := hv
 go_enter Tryz.func131, Tryz.ntmps131
 go_wp2_with fail
 go_loopw [8] (fun iv wr => ∃ m : Nat, m ≤ L.length ∧ iv = .int .i64 m ∧ Hid (Rw.idxF L x 0 = Rw.idxF (L.drop m) x m) ∧ Hid (Below w.heap.size w wr)) (fun iv _ => L.length - (RowKit.intOf iv).toNat)
 case atStart => exact ⟨0, Nat.zero_le _, rfl, rfl, Below.refl _ _⟩
 case round =>
  obtain ⟨m, hm, rfl, HM, HR⟩ := hrel
  by_cases hlt : m < L.length
  ·obtain ⟨y, hy⟩ : ∃ y, L[m]? = some y := ⟨_, List.getElem?_eq_getElem hlt⟩
   obtain ⟨g, o, rfl, hr⟩ : ∃ g o, va = some ⟨g, o, none⟩ ∧ RowOf wr g o 1 strC L := by
    obtain ⟨a', cap', ev, -, -, hr⟩ := HV.out.below HR.out
    cases ev
    exact hr (by omega)
   have e0 := row_cell hr hy 0 rfl
   have hzg := hr.1
   rw [Nat.mul_one, Nat.add_zero] at e0
   have hm0 : (0 : Int) ≤ (m : Int) := by omega
   have hm1 : (m : Int) < (L.length : Int) := by omega
   have HST := hid (Rw.idxF_at (x := x) hy)
   by_cases hxy : x = y
   ·have hb : ((bs x).toList == (bs y).toList) = true := by rw [text_beq]; exact decide_eq_true hxy
    have HE := hid (show Rw.idxF L x 0 = (m : Int) by rw [HM.out, HST.out, if_pos hxy])
    clear hr hy hxy
    go_wp2_with fail
    go_ret
    exact ⟨by rw [HE.out]; rfl, HR.out⟩
   ·have hb : ((bs x).toList == (bs y).toList) = false := by rw [text_beq]; exact decide_eq_false hxy
    have HE := hid (show Rw.idxF L x 0 = Rw.idxF (L.drop (m + 1)) x (m + 1) by rw [HM.out, HST.out, if_neg hxy])
    clear hr hy hxy
    go_wp2_with fail
    go_roundw
    case rel => exact ⟨m + 1, by omega, by go_num, HE, HR⟩
    case measure => simp [RowKit.intOf]; omega
  ·have hm1 : ¬ (m : Int) < (L.length : Int) := by omega
   have HE := hid (show Rw.idxF L x 0 = -1 by rw [HM.out, List.drop_eq_nil_of_le (by omega)]; rfl)
   go_wp2_with fail
   go_ret
   exact ⟨by rw [HE.out]; rfl, HR.out⟩

theorem five_sl {X : World} {b : Nat} (h : X.heap[b]? = some (.cells fiveT 9 (0, 0))) : SlOf X (.slice (some ⟨b, 0, none⟩) 5 5) 1 strC Rw.five := by
 refine ⟨_, 5, rfl, Nat.le_refl _, by unfold maxLen; omega, fun _ => ⟨b, 0, rfl, (Array.getElem?_eq_some_iff.1 h).1, fun i x hx j v hv => ?_⟩⟩
 have hi : i < 5 := (List.getElem?_eq_some_iff.1 hx).1
 have hj : j = 0 := by
  have := (List.getElem?_eq_some_iff.1 hv).1
  have h1 : (strC x).length = 1 := rfl
  omega
 subst hj
 have : i = 0 ∨ i = 1 ∨ i = 2 ∨ i = 3 ∨ i = 4 := by omega
 rcases this with rfl | rfl | rfl | rfl | rfl <;> (cases hx; cases hv; simp [World.cell?, h, fiveT]; rfl)

set_option maxRecDepth 100000 in
set_option maxHeartbeats 4000000 in
theorem script_any10 (w : World) (p : Nat) (l : List Fa.T) (e a : Nat) (h : PsW B w p l e a) (hl : l.length ≤ 5000) : Calls Tryz.prog 94 #[.pointer (some ⟨p, 0, none⟩)] w (NumW B w p e (Rw.scriptP e l)) := by
 have hpz : p < w.heap.size := by obtain ⟨ts, _, h2, _⟩ := h; exact (Array.getElem?_eq_some_iff.1 h2).1
 have HS := hid (scripts_any w)
 obtain ⟨w1, hw1⟩ : ∃ w1, w1 = w.alloc (.cells fiveT 9) := ⟨_, rfl⟩
 have HB1 := hid (show Below w.heap.size w w1 by rw [hw1]; exact (Below.refl _ w).alloc (Nat.le_refl _) _)
 have HF1 := hid (show w1.heap[w.heap.size]? = some (.cells fiveT 9 (0, 0)) by rw [hw1]; exact alloc_new w _)
 have HT1 := hid (take_tok10 1 1 ⟨#[]⟩ [] rfl rfl w1 p l e a (h.below HB1.out) hl)
 have HU := hid (show Rw.scriptP e l = match Fa.take 1 [] e l with | .error x => .error x | .ok (t, r) => if Rw.scrI t.2.text = 0 then .error (5, t.1) else .ok (Rw.scrI t.2.text, r) from rfl)
 have HW1 := hid hw1
 clear h hl hw1
 cases h1 : Fa.take 1 [] e l with
 | error x =>
  have HE := hid (show Rw.scriptP e l = .error x by rw [HU.out, h1])
  rw [h1] at HT1
  clear h1
  go_enter Tryz.func94, Tryz.ntmps94
  go_wp2_with fail
  refine (HS.out).mono ?_
  rintro en w1' ⟨rfl, rfl⟩
  rw [← HW1.out]
  go_wp2_with fail
  refine (HT1.out).mono ?_
  rintro en w2 ⟨rfl, ht2⟩
  unfold thrownP
  go_wp2_with fail
  refine ⟨rfl, ?_⟩
  rw [HE.out]
  exact ⟨rfl, (Tch.of_below HB1.out _).trans ht2 (fun k hk _ => hk)⟩
 | ok u =>
  obtain ⟨t, r⟩ := u
  have HE := hid (show Rw.scriptP e l = if Rw.scrI t.2.text = 0 then .error (5, t.1) else .ok (Rw.scrI t.2.text, r) by rw [HU.out, h1])
  rw [h1] at HT1
  clear h1 HU
  go_enter Tryz.func94, Tryz.ntmps94
  go_wp2_with fail
  refine (HS.out).mono ?_
  rintro en w1' ⟨rfl, rfl⟩
  rw [← HW1.out]
  go_wp2_with fail
  refine (HT1.out).mono ?_
  rintro en w2 ⟨rfl, hP2, ht2⟩
  have HF2 := hid (show w2.heap[w.heap.size]? = some (.cells fiveT 9 (0, 0)) from (ht2.block _ (Array.getElem?_eq_some_iff.1 HF1.out).1 (by show ¬ w.heap.size = p; omega)).trans HF1.out)
  have HI := hid (index_any10 Rw.five t.2.text _ w2 (five_sl HF2.out) (by decide))
  obtain ⟨z, hz⟩ : ∃ z, z = Rw.idxF Rw.five t.2.text 0 := ⟨_, rfl⟩
  rw [← hz] at HI
  have HZ := hid hz
  have HT2 := hid ((Tch.of_below HB1.out (fun b => b = p)).trans ht2 (fun k hk _ => hk))
  have HP2 := hid hP2
  have hfd : ∀ X : World, (Instr.field 116 (.agg #[.int .i64 t.2.kind, .int .i64 t.1, .int .i64 t.2.n, .string (bs t.2.text)]) 3).run Tryz.prog X = .ok (.string (bs t.2.text)) X := fun _ => by kernel_rfl
  unfold tkvP
  clear hz hP2 ht2 HT1
  go_wp2_with fail
  refine (HI.out).mono ?_
  rintro en w3 ⟨rfl, hb3⟩
  have HP3 := hid (HP2.out.below hb3)
  have HT3 := hid (HT2.out.step hb3)
  obtain ⟨ts3, -, hp3, -⟩ := HP3.out
  have c2 : w3.cell? ⟨p, 2, none⟩ = some (.int .i64 t.1) := by simp [World.cell?, hp3]
  have cl : p < w3.heap.size := (Array.getElem?_eq_some_iff.1 hp3).1
  clear hb3 hp3 HI
  by_cases hk : Rw.scrI t.2.text = 0
  ·have hz0 : ¬ 0 < z := by rw [HZ.out]; exact (Rw.idx_five t.2.text).1 hk
   have g1 : decide ((0 : Int) < z) = false := decide_eq_false hz0
   have HE2 := hid (HE.out.trans (if_pos hk))
   have HN := hid (need_no 5 t.1 w3)
   clear hk hz0
   go_wp2_with fail
   refine (HN.out).mono ?_
   rintro en w4 ⟨rfl, hb4⟩
   unfold thrownP
   go_wp2_with fail
   refine ⟨rfl, ?_⟩
   rw [HE2.out]
   exact ⟨rfl, HT3.out.step hb4⟩
  ·obtain ⟨hz1, hz2⟩ := (Rw.idx_five t.2.text).2 hk
   have hz0 : 0 < z := by rw [HZ.out, hz1]; exact hz2
   have g1 : decide ((0 : Int) < z) = true := decide_eq_true hz0
   have HE2 := hid (HE.out.trans (if_neg hk))
   have HZ2 := hid (HZ.out.trans hz1)
   have HN := hid (need_yes 5 t.1 w3)
   clear hk hz0 hz1 hz2
   go_wp2_with fail
   refine (HN.out).mono ?_
   rintro en w4 ⟨rfl, hb4⟩
   have HT4 := hid (HT3.out.step hb4)
   have HP4 := hid (HP3.out.below hb4)
   clear hb4 HN
   go_wp2_with fail
   go_ret
   rw [HE2.out, ← HZ2.out]
   exact ⟨rfl, ⟨_, HP4.out⟩, HT4.out⟩

end Go.Proofs.YtdchjacccmajcaaGreatDoor
