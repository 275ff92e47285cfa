/-
  rewrite.letters; a word against a part of another. Conditions: lengths; the library's tables.
-/
import Derived.Test.YthibphklchalkaaGreatDoorZAl6
import Derived.Test.YthibphklchalkaaGreatDoorZFormB
import Derived.Test.YthibphklchalkaaGreatDoorZMBase
namespace Fo
/-- the letters of the folded word -/
def letters (k : Int) (s : List UInt8) : List (List UInt8) := match Sc.lets k s with | none => [] | some _ => (Sc.lets k (Sc.fold s)).getD []

end Fo
namespace Go.Proofs.YthibphklchalkaaGreatDoor
open Go.RowKit Go.Lib Go.Maps

/-- slices.Equal of a row, not empty, and a part of another row -/
theorem equal_part2 {w : World} {g o k n cap g2 o2 c2 : Nat} {l f : List (List UInt8)} (h : RowOf w g o 1 strC l) (h2 : RowOf w g2 o2 1 strC f) (hk : k + n ≤ l.length) (hn : n = f.length) (hb : n ≤ 1000000) :
    Calls Tryz.prog 30 #[.slice (some ⟨g2, o2, none⟩) n c2, .slice (some ⟨g, o + k, none⟩) n cap] w (Gives (.bool (decide ((l.drop k).take n = f))) w) := by
  have hx := row_cells h
  have hy := row_cells h2
  refine (Tryz.slices_Equal_string g2 o2 n c2 g (o + k) n cap (f.map bs) ((l.map bs).drop k) w (by simp; omega) (by simp; omega) (by omega) (by omega) hy (fun j hj => ?_)).mono ?_
  · rw [List.length_drop] at hj
    rw [Nat.add_assoc, hx (k + j) (by omega)]
    simp [List.getD, List.getElem?_drop]
  · rintro e w' ⟨rfl, q, rfl⟩
    refine ⟨ret_bool (decide_eq_decide.2 ?_), Below.drewQ w q⟩
    rw [List.take_of_length_le (l := f.map bs) (by simp; omega), ← List.map_drop, ← List.map_take]
    exact ⟨fun e => (map_bs_inj e.symm), fun e => by rw [e]⟩

/-- what letters ends in -/
def LetWP (k : Int) (s : List UInt8) (w : World) (e : Ending) (w' : World) : Prop :=
  ∃ v, e = .returned v ∧ w'.ownsRow w.heap.size 9 1 v (Fo.letters k s).length ((Fo.letters k s).flatMap strC) ∧ Below w.heap.size w w'

set_option maxRecDepth 100000 in
set_option maxHeartbeats 2000000 in
theorem letters_w (k : Int) (s : ByteArray) (w : World) (hs : s.size ≤ 1000000) (hT : Tabs w) : Calls Tryz.prog 28 #[.int .i64 k, .string s] w (LetWP k s.data.toList w) := by
  have HFO := hid (fold_any k s w hs hT)
  have HTT := hid hT
  cases hl : Sc.lets k s.data.toList with
  | none =>
    have HE := hid (show Fo.letters k s.data.toList = [] by unfold Fo.letters; rw [hl])
    have HL := hid hl
    clear hl hT
    go_enter Tryz.func28, Tryz.ntmps28
    go_wp2_with fail
    refine (HFO.out).mono ?_
    rintro e W2 ⟨he, hb2⟩
    rw [HL.out] at he
    subst he
    have HB := hid hb2
    clear hb2
    go_wp2_with fail
    go_ret
    exact ⟨_, rfl, by rw [HE.out]; exact World.ownsRow_nil _ _ _ _, HB.out⟩
  | some ls =>
    have HL := hid hl
    have hfs : (bs (Sc.fold s.data.toList)).size ≤ 1000000 := by rw [bs_len]; unfold Sc.fold; rw [List.length_map]; simpa using hs
    clear hl hT
    go_enter Tryz.func28, Tryz.ntmps28
    go_wp2_with fail
    refine (HFO.out).mono ?_
    rintro e W2 ⟨he, hb2⟩
    rw [HL.out] at he
    subst he
    have HB := hid hb2
    have HLE := hid (letters_any k (bs (Sc.fold s.data.toList)) W2 hfs (HTT.out.below hb2))
    clear hb2
    go_wp2_with fail
    refine (HLE.out).mono ?_
    rintro e W3 h3
    unfold LettersPost at h3
    rw [bs_list] at h3
    cases hl2 : Sc.lets k (Sc.fold s.data.toList) with
    | none =>
      rw [hl2] at h3
      obtain ⟨rfl, hb3⟩ := h3
      have HE := hid (show Fo.letters k s.data.toList = [] by unfold Fo.letters; rw [HL.out, hl2]; rfl)
      have HB3 := hid (Below.step HB.out hb3)
      clear hb3 hl2
      go_wp2_with fail
      go_ret
      exact ⟨_, rfl, by rw [HE.out]; exact World.ownsRow_nil _ _ _ _, HB3.out⟩
    | some l =>
      rw [hl2] at h3
      obtain ⟨lv, rfl, hown, hb3⟩ := h3
      have HE := hid (show Fo.letters k s.data.toList = l by unfold Fo.letters; rw [HL.out, hl2]; rfl)
      have HB3 := hid (Below.step HB.out hb3)
      have HO := hid (ownsRow_base hown HB.out.size)
      clear hb3 hl2 hown
      go_wp2_with fail
      go_ret
      exact ⟨_, rfl, by rw [HE.out, flat_str]; exact HO.out, HB3.out⟩

end Go.Proofs.YthibphklchalkaaGreatDoor
