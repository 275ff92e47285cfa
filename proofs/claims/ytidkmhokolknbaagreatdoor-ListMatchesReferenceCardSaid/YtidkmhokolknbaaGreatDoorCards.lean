/-
  DERIVED. GIVEN WITH THE SEED: THE CARDS: each row of YtidkmhokolknbaaGreatDoorRows.lean that lists a variable, with what it lists TIED to the program's text (the seventh form; the later family's looks); each row that meets fmt, with fmt's text TOLD by the authors' own Lean function (tested against real Go, not proved from fmt's source: count such statements apart). THE CARD IS WHAT COUNTS. Prove the row's statement (the work); the ties are given (YtidkmhokolknbaaGreatDoorTie.lean); close each card by the builder's one call (the guide's Derived/Test/ToyasCard.lean, 'card_holds'). Laid BY PROGRAM, IN A SANDBOX (cutbox-door.mjs). By AI agents, Wed Nov 11 2026. No macro, syntax, notation, axiom, sorry.
-/
import Derived.Test.YtidkmhokolknbaaGreatDoorRows
import GoSem.ClaimSeven
namespace Go.Proofs.YtidkmhokolknbaaGreatDoor
namespace Rows

/-- THE TIED CARD OF 'customhouselaw39.ListMatchesReference'. -/
def listMatchesReferenceCard : Claim7 := { stood := { row := listMatchesReferenceRow, standIns := [], harness := (true, "1e5610e3a7c90ca3ea4d4a2595d7885112ecaca728bf70d67af8b2789a706d1d"), looks := true }, kinds := [], alts := [], laidByText := true, laidKinds := [.data, .data, .data, .data, .sentinel, .sentinel, .pinned, .pinned], laidTests := true, laidLooks := .later }
def ListMatchesReferenceCardSaid : Prop := Claim7.holds Tryz.pinned (.plain (OpenSpec.ofChange listMatchesReferenceSpec)) listMatchesReferenceCard

/-- THE TIED CARD OF 'customhouselaw39.ListOne'. -/
def listOneCard : Claim7 := { stood := { row := listOneRow, standIns := [], harness := (true, "1e5610e3a7c90ca3ea4d4a2595d7885112ecaca728bf70d67af8b2789a706d1d"), looks := true }, kinds := [], alts := [], laidByText := true, laidKinds := [.data, .data, .data, .data, .sentinel, .sentinel, .pinned, .pinned], laidTests := true, laidLooks := .later }
def ListOneCardSaid : Prop := Claim7.holds Tryz.pinned (.plain (OpenSpec.ofChange listOneSpec)) listOneCard

/-- THE TIED CARD OF 'customhouselaw39.ListVoid'. -/
def listVoidCard : Claim7 := { stood := { row := listVoidRow, standIns := [], harness := (true, "1e5610e3a7c90ca3ea4d4a2595d7885112ecaca728bf70d67af8b2789a706d1d"), looks := true }, kinds := [], alts := [], laidByText := true, laidKinds := [.data, .data, .data, .data, .sentinel, .sentinel, .pinned, .pinned], laidTests := true, laidLooks := .later }
def ListVoidCardSaid : Prop := Claim7.holds Tryz.pinned (.plain (OpenSpec.ofChange listVoidSpec)) listVoidCard

/-- THE TIED CARD OF 'customhouselaw39.ListTime'. -/
def listTimeCard : Claim7 := { stood := { row := listTimeRow, standIns := [], harness := (true, "1e5610e3a7c90ca3ea4d4a2595d7885112ecaca728bf70d67af8b2789a706d1d"), looks := true }, kinds := [], alts := [], laidByText := true, laidKinds := [.data, .data, .data, .data, .sentinel, .sentinel, .pinned, .pinned], laidTests := true, laidLooks := .later }
def ListTimeCardSaid : Prop := Claim7.holds Tryz.pinned (.plain (OpenSpec.ofChange listTimeSpec)) listTimeCard

/-- THE TIED CARD OF 'customhouselaw39.ListNames'. -/
def listNamesCard : Claim7 := { stood := { row := listNamesRow, standIns := [], harness := (true, "1e5610e3a7c90ca3ea4d4a2595d7885112ecaca728bf70d67af8b2789a706d1d"), looks := true }, kinds := [], alts := [], laidByText := true, laidKinds := [.data, .data, .data, .data, .sentinel, .sentinel, .pinned, .pinned], laidTests := true, laidLooks := .later }
def ListNamesCardSaid : Prop := Claim7.holds Tryz.pinned (.plain (OpenSpec.ofChange listNamesSpec)) listNamesCard

/-- THE TIED CARD OF 'customhouselaw39.ListTexts'. -/
def listTextsCard : Claim7 := { stood := { row := listTextsRow, standIns := [], harness := (true, "1e5610e3a7c90ca3ea4d4a2595d7885112ecaca728bf70d67af8b2789a706d1d"), looks := true }, kinds := [], alts := [], laidByText := true, laidKinds := [.data, .data, .data, .data, .sentinel, .sentinel, .pinned, .pinned], laidTests := true, laidLooks := .later }
def ListTextsCardSaid : Prop := Claim7.holds Tryz.pinned (.plain (OpenSpec.ofChange listTextsSpec)) listTextsCard

/-- THE TIED CARD OF 'customhouselaw39.ListOnce'. -/
def listOnceCard : Claim7 := { stood := { row := listOnceRow, standIns := [], harness := (true, "1e5610e3a7c90ca3ea4d4a2595d7885112ecaca728bf70d67af8b2789a706d1d"), looks := true }, kinds := [], alts := [], laidByText := true, laidKinds := [.data, .data, .data, .data, .sentinel, .sentinel, .pinned, .pinned], laidTests := true, laidLooks := .later }
def ListOnceCardSaid : Prop := Claim7.holds Tryz.pinned (.plain (OpenSpec.ofChange listOnceSpec)) listOnceCard

/-- THE TIED CARD OF 'customhouselaw39.ListExchange'. -/
def listExchangeCard : Claim7 := { stood := { row := listExchangeRow, standIns := [], harness := (true, "1e5610e3a7c90ca3ea4d4a2595d7885112ecaca728bf70d67af8b2789a706d1d"), looks := true }, kinds := [], alts := [], laidByText := true, laidKinds := [.data, .data, .data, .data, .sentinel, .sentinel, .pinned, .pinned], laidTests := true, laidLooks := .later }
def ListExchangeCardSaid : Prop := Claim7.holds Tryz.pinned (.plain (OpenSpec.ofChange listExchangeSpec)) listExchangeCard

/-- THE SECOND FORM's CARD OF 'customhouselaw39.ListMatchesReference'. -/
def listMatchesReferenceUptoCard : Claim7 := { stood := { row := listMatchesReferenceUptoRow, standIns := [], harness := (true, "1e5610e3a7c90ca3ea4d4a2595d7885112ecaca728bf70d67af8b2789a706d1d"), looks := true }, kinds := [], alts := [], laidByText := true, laidKinds := [.data, .data, .data, .data, .sentinel, .sentinel, .pinned, .pinned], laidTests := true, laidLooks := .later }
def ListMatchesReferenceUptoCardSaid : Prop := Claim7.holds Tryz.pinned (.plain (OpenSpec.upto listMatchesReferenceSpec)) listMatchesReferenceUptoCard

/-- THE SECOND FORM's CARD OF 'customhouselaw39.ListOne'. -/
def listOneUptoCard : Claim7 := { stood := { row := listOneUptoRow, standIns := [], harness := (true, "1e5610e3a7c90ca3ea4d4a2595d7885112ecaca728bf70d67af8b2789a706d1d"), looks := true }, kinds := [], alts := [], laidByText := true, laidKinds := [.data, .data, .data, .data, .sentinel, .sentinel, .pinned, .pinned], laidTests := true, laidLooks := .later }
def ListOneUptoCardSaid : Prop := Claim7.holds Tryz.pinned (.plain (OpenSpec.upto listOneSpec)) listOneUptoCard

/-- THE SECOND FORM's CARD OF 'customhouselaw39.ListVoid'. -/
def listVoidUptoCard : Claim7 := { stood := { row := listVoidUptoRow, standIns := [], harness := (true, "1e5610e3a7c90ca3ea4d4a2595d7885112ecaca728bf70d67af8b2789a706d1d"), looks := true }, kinds := [], alts := [], laidByText := true, laidKinds := [.data, .data, .data, .data, .sentinel, .sentinel, .pinned, .pinned], laidTests := true, laidLooks := .later }
def ListVoidUptoCardSaid : Prop := Claim7.holds Tryz.pinned (.plain (OpenSpec.upto listVoidSpec)) listVoidUptoCard

/-- THE SECOND FORM's CARD OF 'customhouselaw39.ListTime'. -/
def listTimeUptoCard : Claim7 := { stood := { row := listTimeUptoRow, standIns := [], harness := (true, "1e5610e3a7c90ca3ea4d4a2595d7885112ecaca728bf70d67af8b2789a706d1d"), looks := true }, kinds := [], alts := [], laidByText := true, laidKinds := [.data, .data, .data, .data, .sentinel, .sentinel, .pinned, .pinned], laidTests := true, laidLooks := .later }
def ListTimeUptoCardSaid : Prop := Claim7.holds Tryz.pinned (.plain (OpenSpec.upto listTimeSpec)) listTimeUptoCard

/-- THE SECOND FORM's CARD OF 'customhouselaw39.ListNames'. -/
def listNamesUptoCard : Claim7 := { stood := { row := listNamesUptoRow, standIns := [], harness := (true, "1e5610e3a7c90ca3ea4d4a2595d7885112ecaca728bf70d67af8b2789a706d1d"), looks := true }, kinds := [], alts := [], laidByText := true, laidKinds := [.data, .data, .data, .data, .sentinel, .sentinel, .pinned, .pinned], laidTests := true, laidLooks := .later }
def ListNamesUptoCardSaid : Prop := Claim7.holds Tryz.pinned (.plain (OpenSpec.upto listNamesSpec)) listNamesUptoCard

/-- THE SECOND FORM's CARD OF 'customhouselaw39.ListTexts'. -/
def listTextsUptoCard : Claim7 := { stood := { row := listTextsUptoRow, standIns := [], harness := (true, "1e5610e3a7c90ca3ea4d4a2595d7885112ecaca728bf70d67af8b2789a706d1d"), looks := true }, kinds := [], alts := [], laidByText := true, laidKinds := [.data, .data, .data, .data, .sentinel, .sentinel, .pinned, .pinned], laidTests := true, laidLooks := .later }
def ListTextsUptoCardSaid : Prop := Claim7.holds Tryz.pinned (.plain (OpenSpec.upto listTextsSpec)) listTextsUptoCard

/-- THE SECOND FORM's CARD OF 'customhouselaw39.ListOnce'. -/
def listOnceUptoCard : Claim7 := { stood := { row := listOnceUptoRow, standIns := [], harness := (true, "1e5610e3a7c90ca3ea4d4a2595d7885112ecaca728bf70d67af8b2789a706d1d"), looks := true }, kinds := [], alts := [], laidByText := true, laidKinds := [.data, .data, .data, .data, .sentinel, .sentinel, .pinned, .pinned], laidTests := true, laidLooks := .later }
def ListOnceUptoCardSaid : Prop := Claim7.holds Tryz.pinned (.plain (OpenSpec.upto listOnceSpec)) listOnceUptoCard

/-- THE SECOND FORM's CARD OF 'customhouselaw39.ListExchange'. -/
def listExchangeUptoCard : Claim7 := { stood := { row := listExchangeUptoRow, standIns := [], harness := (true, "1e5610e3a7c90ca3ea4d4a2595d7885112ecaca728bf70d67af8b2789a706d1d"), looks := true }, kinds := [], alts := [], laidByText := true, laidKinds := [.data, .data, .data, .data, .sentinel, .sentinel, .pinned, .pinned], laidTests := true, laidLooks := .later }
def ListExchangeUptoCardSaid : Prop := Claim7.holds Tryz.pinned (.plain (OpenSpec.upto listExchangeSpec)) listExchangeUptoCard
end Rows
end Go.Proofs.YtidkmhokolknbaaGreatDoor
