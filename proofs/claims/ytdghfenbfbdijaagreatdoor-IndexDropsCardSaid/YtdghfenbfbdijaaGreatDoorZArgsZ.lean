/-
 Entries opened with how many of them there may be. Conditions: none.
-/
import Derived.Test.YtdghfenbfbdijaaGreatDoorZArgsY
namespace Go.Proofs.YtdghfenbfbdijaaGreatDoor
open Go.RowKit Go.ChangeShapes Go.WideShapes Go.Deep

section
variable {H : Type} {enc : TypeId × Value → H} {w : World} {base : Nat} {spare : Nat → Bool} {held : Bool}

set_option maxRecDepth 100000 in
theorem open_ensL {rr : Reach} {b0 : Nat} {v : Value} {d : DataW H} {p : List MemPlace} (hv : Value.okWide Tryz.prog w rr b0 26 v) (h : DataW.Trod enc Tryz.prog w base spare held 26 v d p) (hw : Light Tryz.prog 26 d) : ∃ ps : List (Li.En × Value), EnsRaw w v ps ∧ (∀ e ∈ ps.map Prod.fst, ∀ m ∈ e.names, m.words.length ≤ 8796093022208) ∧ ps.length * 40 ≤ 140737488351232 := by
 obtain ⟨a, n, c, rfl, _⟩ := okWide_slice Tryz.underlying26 hv
 obtain ⟨fuel, hf⟩ := h
 obtain ⟨ps, h1, h2, h3⟩ := open_rowsW (cells := enC) (sz := 2) Tryz.underlying26 (by kernel_rfl) (by decide) (fun _ => rfl) (fun r n y h hw => entry_rowW r n y h hw) hf hw
 rw [show Tryz.prog.bytesOf 40 = 40 by kernel_rfl] at h3
 refine ⟨ps, ⟨h1, fun p hp => (h2 p hp).1⟩, fun e he => ?_, h3⟩
 obtain ⟨p, hp, rfl⟩ := List.mem_map.1 he
 exact (h2 p hp).2
end
end Go.Proofs.YtdghfenbfbdijaaGreatDoor
