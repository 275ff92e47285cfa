/-
  An argument of bytes, opened. Conditions: none.
-/
import Derived.Test.YtdchjacccmajcaaGreatDoorZArgsU
import Derived.Test.YtdchjacccmajcaaGreatDoorZLawRe
import Derived.OpenShut
namespace Go.Proofs.YtdchjacccmajcaaGreatDoor
open Go.RowKit Go.ChangeShapes Go.WideShapes Go.Deep

section
variable {H : Type} {enc : TypeId × Value → H} {w : World} {base : Nat} {spare : Nat → Bool} {held : Bool}

set_option maxRecDepth 100000 in
theorem open_bytes {rr : Reach} {b0 : Nat} {v : Value} {d : DataW H} {p : List MemPlace} (hv : Value.okWide Tryz.prog w rr b0 26 v) (h : DataW.Trod enc Tryz.prog w base spare held 26 v d p) : ∃ l, SlOf w v 1 u8C l ∧ ∀ x ∈ l, 0 ≤ x ∧ x ≤ 255 := by
  have one : ∀ (r : List Value) (n : Nat) (y : DataW H × List MemPlace), DataW.trod enc Tryz.prog w base spare held n 5 r = some y → ∃ i : Int, r = u8C i ∧ (0 ≤ i ∧ i ≤ 255) := fun r n y h => by
    obtain ⟨i, h1, _, h3⟩ := DataW.trod_int Tryz.underlying5 h
    exact ⟨i, h1, bounds_u8 h3⟩
  obtain ⟨a, n, c, rfl⟩ := okWide_slice Tryz.underlying26 hv
  obtain ⟨fuel, hf⟩ := h
  exact open_rows (cells := u8C) (sz := 1) Tryz.underlying26 (by kernel_rfl) (by decide) (fun _ => rfl) one hf
end

end Go.Proofs.YtdchjacccmajcaaGreatDoor
