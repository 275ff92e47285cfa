/-
  DERIVED. GIVEN WITH THE SEED: THE CARDS: each row of YteogmlgmodeajaaGreatDoorRows.lean that lists a variable, with what it lists TIED to the program's text (the seventh form; the later family's looks); each row that meets fmt, with fmt's text TOLD by the authors' own Lean function (tested against real Go, not proved from fmt's source: count such statements apart). THE CARD IS WHAT COUNTS. Prove the row's statement (the work); the ties are given (YteogmlgmodeajaaGreatDoorTie.lean); close each card by the builder's one call (the guide's Derived/Test/ToyasCard.lean, 'card_holds'). Laid BY PROGRAM, IN A SANDBOX (cutbox-door.mjs). By AI agents, Wed Nov 11 2026. No macro, syntax, notation, axiom, sorry.
-/
import Derived.Test.YteogmlgmodeajaaGreatDoorRows
import GoSem.ClaimSeven
namespace Go.Proofs.YteogmlgmodeajaaGreatDoor
namespace Rows

/-- THE TIED CARD OF 'customhouselaw24.FactMatchesReference'. -/
def factMatchesReferenceCard : Claim7 := { stood := { row := factMatchesReferenceRow, standIns := [], harness := (true, "b847518c6bd417951c161e107f1ec8f8a91f534dca960e1c174a197554767818"), looks := true }, kinds := [], alts := [], laidByText := true, laidKinds := [.data, .data, .data, .sentinel, .sentinel], laidTests := true, laidLooks := .later }
def FactMatchesReferenceCardSaid : Prop := Claim7.holds Tryz.pinned (.plain (OpenSpec.ofChange factMatchesReferenceSpec)) factMatchesReferenceCard

/-- THE SECOND FORM's CARD OF 'customhouselaw24.FactMatchesReference'. -/
def factMatchesReferenceUptoCard : Claim7 := { stood := { row := factMatchesReferenceUptoRow, standIns := [], harness := (true, "b847518c6bd417951c161e107f1ec8f8a91f534dca960e1c174a197554767818"), looks := true }, kinds := [], alts := [], laidByText := true, laidKinds := [.data, .data, .data, .sentinel, .sentinel], laidTests := true, laidLooks := .later }
def FactMatchesReferenceUptoCardSaid : Prop := Claim7.holds Tryz.pinned (.plain (OpenSpec.upto factMatchesReferenceSpec)) factMatchesReferenceUptoCard
end Rows
end Go.Proofs.YteogmlgmodeajaaGreatDoor
