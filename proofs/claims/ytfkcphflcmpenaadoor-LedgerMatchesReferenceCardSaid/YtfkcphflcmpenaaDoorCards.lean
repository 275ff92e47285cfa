/-
  DERIVED. GIVEN WITH THE SEED: THE CARDS: each row of YtfkcphflcmpenaaDoorRows.lean that lists a variable, with what it lists TIED to the program's text (the seventh form; the later family's looks); each row that meets fmt, with fmt's text TOLD by the authors' own Lean function (tested against real Go, not proved from fmt's source: count such statements apart). THE CARD IS WHAT COUNTS. Prove the row's statement (the work); the ties are given (YtfkcphflcmpenaaDoorTie.lean); close each card by the builder's one call (the guide's Derived/Test/ToyasCard.lean, 'card_holds'). Laid BY PROGRAM, IN A SANDBOX (cutbox-door.mjs). By AI agents, Wed Nov 11 2026. No macro, syntax, notation, axiom, sorry.
-/
import Derived.Test.YtfkcphflcmpenaaDoorRows
import GoSem.ClaimSeven
namespace Go.Proofs.YtfkcphflcmpenaaDoor
namespace Rows

/-- THE TIED CARD OF 'customhouselaw37.LedgerMatchesReference'. -/
def ledgerMatchesReferenceCard : Claim7 := { stood := { row := ledgerMatchesReferenceRow, standIns := [], harness := (true, "67c7160c3cb54379f412a08253035bbd1b79f5ab9af34c0ff1845d9a27aff9f7"), looks := true }, kinds := [], alts := [], laidByText := true, laidKinds := [.data, .data, .data, .sentinel, .sentinel], laidTests := true, laidLooks := .later }
def LedgerMatchesReferenceCardSaid : Prop := Claim7.holds Tryd.pinned (.plain (OpenSpec.ofChange ledgerMatchesReferenceSpec)) ledgerMatchesReferenceCard

/-- THE TIED CARD OF 'customhouselaw37.LedgerZero'. -/
def ledgerZeroCard : Claim7 := { stood := { row := ledgerZeroRow, standIns := [], harness := (true, "67c7160c3cb54379f412a08253035bbd1b79f5ab9af34c0ff1845d9a27aff9f7"), looks := true }, kinds := [], alts := [], laidByText := true, laidKinds := [.data, .data, .data, .sentinel, .sentinel], laidTests := true, laidLooks := .later }
def LedgerZeroCardSaid : Prop := Claim7.holds Tryd.pinned (.plain (OpenSpec.ofChange ledgerZeroSpec)) ledgerZeroCard

/-- THE TIED CARD OF 'customhouselaw37.LedgerBooks'. -/
def ledgerBooksCard : Claim7 := { stood := { row := ledgerBooksRow, standIns := [], harness := (true, "67c7160c3cb54379f412a08253035bbd1b79f5ab9af34c0ff1845d9a27aff9f7"), looks := true }, kinds := [], alts := [], laidByText := true, laidKinds := [.data, .data, .data, .sentinel, .sentinel], laidTests := true, laidLooks := .later }
def LedgerBooksCardSaid : Prop := Claim7.holds Tryd.pinned (.plain (OpenSpec.ofChange ledgerBooksSpec)) ledgerBooksCard

/-- THE TIED CARD OF 'customhouselaw37.LedgerHistory'. -/
def ledgerHistoryCard : Claim7 := { stood := { row := ledgerHistoryRow, standIns := [], harness := (true, "67c7160c3cb54379f412a08253035bbd1b79f5ab9af34c0ff1845d9a27aff9f7"), looks := true }, kinds := [], alts := [], laidByText := true, laidKinds := [.data, .data, .data, .sentinel, .sentinel], laidTests := true, laidLooks := .later }
def LedgerHistoryCardSaid : Prop := Claim7.holds Tryd.pinned (.plain (OpenSpec.ofChange ledgerHistorySpec)) ledgerHistoryCard

/-- THE TIED CARD OF 'customhouselaw37.LedgerUndoes'. -/
def ledgerUndoesCard : Claim7 := { stood := { row := ledgerUndoesRow, standIns := [], harness := (true, "67c7160c3cb54379f412a08253035bbd1b79f5ab9af34c0ff1845d9a27aff9f7"), looks := true }, kinds := [], alts := [], laidByText := true, laidKinds := [.data, .data, .data, .sentinel, .sentinel], laidTests := true, laidLooks := .later }
def LedgerUndoesCardSaid : Prop := Claim7.holds Tryd.pinned (.plain (OpenSpec.ofChange ledgerUndoesSpec)) ledgerUndoesCard

/-- THE TIED CARD OF 'customhouselaw37.LedgerCopies'. -/
def ledgerCopiesCard : Claim7 := { stood := { row := ledgerCopiesRow, standIns := [], harness := (true, "67c7160c3cb54379f412a08253035bbd1b79f5ab9af34c0ff1845d9a27aff9f7"), looks := true }, kinds := [], alts := [], laidByText := true, laidKinds := [.data, .data, .data, .sentinel, .sentinel], laidTests := true, laidLooks := .later }
def LedgerCopiesCardSaid : Prop := Claim7.holds Tryd.pinned (.plain (OpenSpec.ofChange ledgerCopiesSpec)) ledgerCopiesCard

/-- THE SECOND FORM's CARD OF 'customhouselaw37.LedgerMatchesReference'. -/
def ledgerMatchesReferenceUptoCard : Claim7 := { stood := { row := ledgerMatchesReferenceUptoRow, standIns := [], harness := (true, "67c7160c3cb54379f412a08253035bbd1b79f5ab9af34c0ff1845d9a27aff9f7"), looks := true }, kinds := [], alts := [], laidByText := true, laidKinds := [.data, .data, .data, .sentinel, .sentinel], laidTests := true, laidLooks := .later }
def LedgerMatchesReferenceUptoCardSaid : Prop := Claim7.holds Tryd.pinned (.plain (OpenSpec.upto ledgerMatchesReferenceSpec)) ledgerMatchesReferenceUptoCard

/-- THE SECOND FORM's CARD OF 'customhouselaw37.LedgerZero'. -/
def ledgerZeroUptoCard : Claim7 := { stood := { row := ledgerZeroUptoRow, standIns := [], harness := (true, "67c7160c3cb54379f412a08253035bbd1b79f5ab9af34c0ff1845d9a27aff9f7"), looks := true }, kinds := [], alts := [], laidByText := true, laidKinds := [.data, .data, .data, .sentinel, .sentinel], laidTests := true, laidLooks := .later }
def LedgerZeroUptoCardSaid : Prop := Claim7.holds Tryd.pinned (.plain (OpenSpec.upto ledgerZeroSpec)) ledgerZeroUptoCard

/-- THE SECOND FORM's CARD OF 'customhouselaw37.LedgerBooks'. -/
def ledgerBooksUptoCard : Claim7 := { stood := { row := ledgerBooksUptoRow, standIns := [], harness := (true, "67c7160c3cb54379f412a08253035bbd1b79f5ab9af34c0ff1845d9a27aff9f7"), looks := true }, kinds := [], alts := [], laidByText := true, laidKinds := [.data, .data, .data, .sentinel, .sentinel], laidTests := true, laidLooks := .later }
def LedgerBooksUptoCardSaid : Prop := Claim7.holds Tryd.pinned (.plain (OpenSpec.upto ledgerBooksSpec)) ledgerBooksUptoCard

/-- THE SECOND FORM's CARD OF 'customhouselaw37.LedgerHistory'. -/
def ledgerHistoryUptoCard : Claim7 := { stood := { row := ledgerHistoryUptoRow, standIns := [], harness := (true, "67c7160c3cb54379f412a08253035bbd1b79f5ab9af34c0ff1845d9a27aff9f7"), looks := true }, kinds := [], alts := [], laidByText := true, laidKinds := [.data, .data, .data, .sentinel, .sentinel], laidTests := true, laidLooks := .later }
def LedgerHistoryUptoCardSaid : Prop := Claim7.holds Tryd.pinned (.plain (OpenSpec.upto ledgerHistorySpec)) ledgerHistoryUptoCard

/-- THE SECOND FORM's CARD OF 'customhouselaw37.LedgerUndoes'. -/
def ledgerUndoesUptoCard : Claim7 := { stood := { row := ledgerUndoesUptoRow, standIns := [], harness := (true, "67c7160c3cb54379f412a08253035bbd1b79f5ab9af34c0ff1845d9a27aff9f7"), looks := true }, kinds := [], alts := [], laidByText := true, laidKinds := [.data, .data, .data, .sentinel, .sentinel], laidTests := true, laidLooks := .later }
def LedgerUndoesUptoCardSaid : Prop := Claim7.holds Tryd.pinned (.plain (OpenSpec.upto ledgerUndoesSpec)) ledgerUndoesUptoCard

/-- THE SECOND FORM's CARD OF 'customhouselaw37.LedgerCopies'. -/
def ledgerCopiesUptoCard : Claim7 := { stood := { row := ledgerCopiesUptoRow, standIns := [], harness := (true, "67c7160c3cb54379f412a08253035bbd1b79f5ab9af34c0ff1845d9a27aff9f7"), looks := true }, kinds := [], alts := [], laidByText := true, laidKinds := [.data, .data, .data, .sentinel, .sentinel], laidTests := true, laidLooks := .later }
def LedgerCopiesUptoCardSaid : Prop := Claim7.holds Tryd.pinned (.plain (OpenSpec.upto ledgerCopiesSpec)) ledgerCopiesUptoCard
end Rows
end Go.Proofs.YtfkcphflcmpenaaDoor
