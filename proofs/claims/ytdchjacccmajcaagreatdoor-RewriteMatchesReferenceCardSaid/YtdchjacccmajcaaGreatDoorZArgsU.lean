/-
  An argument of type uint8, opened. Conditions: none.
-/
import Derived.Test.YtdchjacccmajcaaGreatDoorZArgs
import Derived.OpenShut
namespace Go.Proofs.YtdchjacccmajcaaGreatDoor
open Go.RowKit Go.ChangeShapes Go.WideShapes Go.Deep

section
variable {H : Type} {enc : TypeId × Value → H} {w : World} {base : Nat} {spare : Nat → Bool} {held : Bool}

set_option maxRecDepth 100000 in
theorem open_u8 {rr : Reach} {b0 : Nat} {v : Value} {d : DataW H} {p : List MemPlace} (hv : Value.okWide Tryz.prog w rr b0 5 v) (h : DataW.Trod enc Tryz.prog w base spare held 5 v d p) : ∃ i, v = .int .u8 i ∧ 0 ≤ i ∧ i ≤ 255 := by
  obtain ⟨i, rfl⟩ := okWide_int Tryz.underlying5 hv
  obtain ⟨fuel, hf⟩ := h
  obtain ⟨j, h1, _, h3⟩ := DataW.trod_int Tryz.underlying5 hf
  have e : i = j := by simp [Value.cells] at h1; exact h1
  subst e
  exact ⟨i, rfl, bounds_u8 h3⟩
end

end Go.Proofs.YtdchjacccmajcaaGreatDoor
