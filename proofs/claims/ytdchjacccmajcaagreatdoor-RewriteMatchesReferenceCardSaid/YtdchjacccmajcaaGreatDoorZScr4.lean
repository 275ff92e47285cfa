/-
  script.Fold. Conditions: lengths; the library's tables.
-/
import Derived.Test.YtdchjacccmajcaaGreatDoorZScr3
namespace Go.Proofs.YtdchjacccmajcaaGreatDoor
open Go.RowKit Go.Lib

/-- what Fold returns -/
def FoldPost (k : Int) (s : List UInt8) (w : World) (e : Ending) (w' : World) : Prop :=
  (match Sc.lets k s with
  | none => e = .returned (.tuple #[.string ⟨#[]⟩, .int .i64 1])
  | some _ => e = .returned (.tuple #[.string (bs (Sc.fold s)), .int .i64 0])) ∧ Below w.heap.size w w'

set_option maxRecDepth 100000 in
set_option maxHeartbeats 800000 in
theorem fold_any (k : Int) (s : ByteArray) (w : World) (hs : s.size ≤ 1000000) (hT : Tabs w) : Calls Tryz.prog 20 #[.int .i64 k, .string s] w (FoldPost k s.data.toList w) := by
  cases hl : Sc.lets k s.data.toList with
  | none =>
    have HL := hid hl
    clear hl
    go_enter Tryz.func20, Tryz.ntmps20
    go_wp2_with fail
    refine (letters_any k s w hs hT).mono ?_
    rintro e w1 h1
    unfold LettersPost at h1
    rw [HL.out] at h1
    obtain ⟨rfl, hb1⟩ := h1
    go_wp2
    go_ret2
    unfold FoldPost
    rw [HL.out]
    exact ⟨rfl, hb1⟩
  | some ls =>
    have HL := hid hl
    have hlow := lower_word s.data.toList (Sc.lets_ascii hl)
    clear hl
    go_enter Tryz.func20, Tryz.ntmps20
    go_wp2_with fail
    refine (letters_any k s w hs hT).mono ?_
    rintro e w1 h1
    unfold LettersPost at h1
    rw [HL.out] at h1
    obtain ⟨v, rfl, _, hb1⟩ := h1
    have hlo := Tryz.strings_ToLower_any s w1 (by omega) (hT.below hb1).case_ (hT.below hb1).utf8
    rw [hlow] at hlo
    have HX := hid hlo
    have HB := hid hb1
    clear hlo hb1 hlow
    go_wp2_with fail
    refine (HX.out).mono ?_
    rintro e w2 ⟨rfl, hb2⟩
    go_wp2
    go_ret2
    unfold FoldPost
    rw [HL.out]
    exact ⟨rfl, HB.out.trans (hb2.mono HB.out.size)⟩

end Go.Proofs.YtdchjacccmajcaaGreatDoor
