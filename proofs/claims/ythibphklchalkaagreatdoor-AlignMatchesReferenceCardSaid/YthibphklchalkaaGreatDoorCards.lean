/-
  DERIVED. GIVEN WITH THE SEED: THE CARDS: each row of YthibphklchalkaaGreatDoorRows.lean that lists a variable, with what it lists TIED to the program's text (the seventh form; the later family's looks); each row that meets fmt, with fmt's text TOLD by the authors' own Lean function (tested against real Go, not proved from fmt's source: count such statements apart). THE CARD IS WHAT COUNTS. Prove the row's statement (the work); the ties are given (YthibphklchalkaaGreatDoorTie.lean); close each card by the builder's one call (the guide's Derived/Test/ToyasCard.lean, 'card_holds'). Laid BY PROGRAM, IN A SANDBOX (cutbox-door.mjs). By AI agents, Wed Nov 11 2026. No macro, syntax, notation, axiom, sorry.
-/
import Derived.Test.YthibphklchalkaaGreatDoorRows
import GoSem.ClaimSeven
namespace Go.Proofs.YthibphklchalkaaGreatDoor
namespace Rows

/-- THE TIED CARD OF 'customhouselaw11.AlignMatchesReference'. -/
def alignMatchesReferenceCard : Claim7 := { stood := { row := alignMatchesReferenceRow, standIns := [], harness := (true, "c24f4d2fcd59456e39d11c446d7e83dee996d8e8828d05a2d08dac12cd5b8dba"), looks := false }, kinds := [], alts := [], laidByText := true, laidKinds := [.data, .pinned, .pinned], laidTests := true, laidLooks := .later }
def AlignMatchesReferenceCardSaid : Prop := Claim7.holds Tryz.pinned (.plain (OpenSpec.ofChange alignMatchesReferenceSpec)) alignMatchesReferenceCard

/-- THE TIED CARD OF 'customhouselaw11.AlignForms'. -/
def alignFormsCard : Claim7 := { stood := { row := alignFormsRow, standIns := [], harness := (true, "c24f4d2fcd59456e39d11c446d7e83dee996d8e8828d05a2d08dac12cd5b8dba"), looks := false }, kinds := [], alts := [], laidByText := true, laidKinds := [.data, .pinned, .pinned], laidTests := true, laidLooks := .later }
def AlignFormsCardSaid : Prop := Claim7.holds Tryz.pinned (.plain (OpenSpec.ofChange alignFormsSpec)) alignFormsCard

/-- THE TIED CARD OF 'customhouselaw11.AlignItself'. -/
def alignItselfCard : Claim7 := { stood := { row := alignItselfRow, standIns := [], harness := (true, "c24f4d2fcd59456e39d11c446d7e83dee996d8e8828d05a2d08dac12cd5b8dba"), looks := false }, kinds := [], alts := [], laidByText := true, laidKinds := [.data, .pinned, .pinned], laidTests := true, laidLooks := .later }
def AlignItselfCardSaid : Prop := Claim7.holds Tryz.pinned (.plain (OpenSpec.ofChange alignItselfSpec)) alignItselfCard

/-- THE SECOND FORM's CARD OF 'customhouselaw11.AlignMatchesReference'. -/
def alignMatchesReferenceUptoCard : Claim7 := { stood := { row := alignMatchesReferenceUptoRow, standIns := [], harness := (true, "c24f4d2fcd59456e39d11c446d7e83dee996d8e8828d05a2d08dac12cd5b8dba"), looks := false }, kinds := [], alts := [], laidByText := true, laidKinds := [.data, .pinned, .pinned], laidTests := true, laidLooks := .later }
def AlignMatchesReferenceUptoCardSaid : Prop := Claim7.holds Tryz.pinned (.plain (OpenSpec.upto alignMatchesReferenceSpec)) alignMatchesReferenceUptoCard

/-- THE SECOND FORM's CARD OF 'customhouselaw11.AlignForms'. -/
def alignFormsUptoCard : Claim7 := { stood := { row := alignFormsUptoRow, standIns := [], harness := (true, "c24f4d2fcd59456e39d11c446d7e83dee996d8e8828d05a2d08dac12cd5b8dba"), looks := false }, kinds := [], alts := [], laidByText := true, laidKinds := [.data, .pinned, .pinned], laidTests := true, laidLooks := .later }
def AlignFormsUptoCardSaid : Prop := Claim7.holds Tryz.pinned (.plain (OpenSpec.upto alignFormsSpec)) alignFormsUptoCard

/-- THE SECOND FORM's CARD OF 'customhouselaw11.AlignItself'. -/
def alignItselfUptoCard : Claim7 := { stood := { row := alignItselfUptoRow, standIns := [], harness := (true, "c24f4d2fcd59456e39d11c446d7e83dee996d8e8828d05a2d08dac12cd5b8dba"), looks := false }, kinds := [], alts := [], laidByText := true, laidKinds := [.data, .pinned, .pinned], laidTests := true, laidLooks := .later }
def AlignItselfUptoCardSaid : Prop := Claim7.holds Tryz.pinned (.plain (OpenSpec.upto alignItselfSpec)) alignItselfUptoCard
end Rows
end Go.Proofs.YthibphklchalkaaGreatDoor
