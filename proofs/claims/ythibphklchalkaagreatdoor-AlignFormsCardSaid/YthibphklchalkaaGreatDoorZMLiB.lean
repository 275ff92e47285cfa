/-
  Several texts in one: ZStillAt. Conditions: as each law says.
-/
import Derived.Test.YthibphklchalkaaGreatDoorZMBase
namespace Go.Proofs.YthibphklchalkaaGreatDoor
open Go.RowKit

/-- all that was there is as it was -/
def StillAt (A : World) (_ : Array Bool) (X : World) : Prop := Below A.heap.size A X
theorem AtS.still {md : Region.Mode} {ops : Array Oper} {A X : World} {i : Nat} (h : AtS md ops (StillAt A) i X) : Below A.heap.size A X := by
  obtain ⟨_, _, _, h⟩ := h
  exact h

/-- one whose guard is false is taken first -/
theorem wpAnyS_skip {P : Program} {ops : Array Oper} {Q : Exit → Act → World → Prop} {md : Region.Mode} {S : Array Bool → World → Prop} {i : Nat} {oi : Oper} {fuel : Nat} {listed : Array Bool} {a : Act} {w : World} (hi : ops[i]? = some oi)
    (hs : Region.noSelect ops = true) (hf : Region.free md ops listed i = true) (hr : (Region.ready md ops listed).contains i = true)
    (hQ : ∀ c a w, Q (.panic c) (a.put oi.dst undef) w → Q (.panic c) a w) (hSi : ∀ listed w, S (listed.setIfInBounds i true) w ↔ S listed w) (hc : Closed md ops listed)
    (hw : Region.wanted oi (yielded ops a.tmps) = false) (hS : S listed w)
    (h : Closed md ops (listed.setIfInBounds i true) → S (listed.setIfInBounds i true) w → wpAnyS P md ops Q S fuel (listed.setIfInBounds i true) (a.put oi.dst undef) w) : wpAnyS P md ops Q S (fuel + 1) listed a w :=
  wpAnyS_first hi (Region.noSelect_spec hs) hQ hSi fuel listed a w hc (Region.free_spec hi hf) (by simpa using hr) (.inr ⟨hw, rfl⟩) hS (h (closed_step hc (by simpa using hr)) ((hSi _ _).2 hS))

end Go.Proofs.YthibphklchalkaaGreatDoor
