/-
  DERIVED. GIVEN WITH THE SEED: THE CARDS: each row of YtdghfenbfbdijaaGreatDoorRows.lean that lists a variable, with what it lists TIED to the program's text (the seventh form; the later family's looks); each row that meets fmt, with fmt's text TOLD by the authors' own Lean function (tested against real Go, not proved from fmt's source: count such statements apart). THE CARD IS WHAT COUNTS. Prove the row's statement (the work); the ties are given (YtdghfenbfbdijaaGreatDoorTie.lean); close each card by the builder's one call (the guide's Derived/Test/ToyasCard.lean, 'card_holds'). Laid BY PROGRAM, IN A SANDBOX (cutbox-door.mjs). By AI agents, Wed Nov 11 2026. No macro, syntax, notation, axiom, sorry.
-/
import Derived.Test.YtdghfenbfbdijaaGreatDoorRows
import GoSem.ClaimSeven
namespace Go.Proofs.YtdghfenbfbdijaaGreatDoor
namespace Rows

/-- THE TIED CARD OF 'customhouselaw16.IndexMatchesReference'. -/
def indexMatchesReferenceCard : Claim7 := { stood := { row := indexMatchesReferenceRow, standIns := [], harness := (true, "de0e0913ef2d6b3e0d2d2940b1164e77c87e0d6e9670e7bf44857c147b01dc73"), looks := true }, kinds := [], alts := [], laidByText := true, laidKinds := [.data, .data, .data, .data, .sentinel, .sentinel, .pinned, .pinned], laidTests := true, laidLooks := .later }
def IndexMatchesReferenceCardSaid : Prop := Claim7.holds Tryz.pinned (.plain (OpenSpec.ofChange indexMatchesReferenceSpec)) indexMatchesReferenceCard

/-- THE TIED CARD OF 'customhouselaw16.IndexOrder'. -/
def indexOrderCard : Claim7 := { stood := { row := indexOrderRow, standIns := [], harness := (true, "de0e0913ef2d6b3e0d2d2940b1164e77c87e0d6e9670e7bf44857c147b01dc73"), looks := true }, kinds := [], alts := [], laidByText := true, laidKinds := [.data, .data, .data, .data, .sentinel, .sentinel, .pinned, .pinned], laidTests := true, laidLooks := .later }
def IndexOrderCardSaid : Prop := Claim7.holds Tryz.pinned (.plain (OpenSpec.ofChange indexOrderSpec)) indexOrderCard

/-- THE TIED CARD OF 'customhouselaw16.IndexDrops'. -/
def indexDropsCard : Claim7 := { stood := { row := indexDropsRow, standIns := [], harness := (true, "de0e0913ef2d6b3e0d2d2940b1164e77c87e0d6e9670e7bf44857c147b01dc73"), looks := true }, kinds := [], alts := [], laidByText := true, laidKinds := [.data, .data, .data, .data, .sentinel, .sentinel, .pinned, .pinned], laidTests := true, laidLooks := .later }
def IndexDropsCardSaid : Prop := Claim7.holds Tryz.pinned (.plain (OpenSpec.ofChange indexDropsSpec)) indexDropsCard

/-- THE TIED CARD OF 'customhouselaw16.IndexBounds'. -/
def indexBoundsCard : Claim7 := { stood := { row := indexBoundsRow, standIns := [], harness := (true, "de0e0913ef2d6b3e0d2d2940b1164e77c87e0d6e9670e7bf44857c147b01dc73"), looks := true }, kinds := [], alts := [], laidByText := true, laidKinds := [.data, .data, .data, .data, .sentinel, .sentinel, .pinned, .pinned], laidTests := true, laidLooks := .later }
def IndexBoundsCardSaid : Prop := Claim7.holds Tryz.pinned (.plain (OpenSpec.ofChange indexBoundsSpec)) indexBoundsCard

/-- THE TIED CARD OF 'customhouselaw16.IndexCopies'. -/
def indexCopiesCard : Claim7 := { stood := { row := indexCopiesRow, standIns := [], harness := (true, "de0e0913ef2d6b3e0d2d2940b1164e77c87e0d6e9670e7bf44857c147b01dc73"), looks := true }, kinds := [], alts := [], laidByText := true, laidKinds := [.data, .data, .data, .data, .sentinel, .sentinel, .pinned, .pinned], laidTests := true, laidLooks := .later }
def IndexCopiesCardSaid : Prop := Claim7.holds Tryz.pinned (.plain (OpenSpec.ofChange indexCopiesSpec)) indexCopiesCard

/-- THE TIED CARD OF 'customhouselaw16.IndexNothing'. -/
def indexNothingCard : Claim7 := { stood := { row := indexNothingRow, standIns := [], harness := (true, "de0e0913ef2d6b3e0d2d2940b1164e77c87e0d6e9670e7bf44857c147b01dc73"), looks := true }, kinds := [], alts := [], laidByText := true, laidKinds := [.data, .data, .data, .data, .sentinel, .sentinel, .pinned, .pinned], laidTests := true, laidLooks := .later }
def IndexNothingCardSaid : Prop := Claim7.holds Tryz.pinned (.plain (OpenSpec.ofChange indexNothingSpec)) indexNothingCard

/-- THE TIED CARD OF 'customhouselaw16.IndexFindsAll'. -/
def indexFindsAllCard : Claim7 := { stood := { row := indexFindsAllRow, standIns := [], harness := (true, "de0e0913ef2d6b3e0d2d2940b1164e77c87e0d6e9670e7bf44857c147b01dc73"), looks := true }, kinds := [], alts := [], laidByText := true, laidKinds := [.data, .data, .data, .data, .sentinel, .sentinel, .pinned, .pinned], laidTests := true, laidLooks := .later }
def IndexFindsAllCardSaid : Prop := Claim7.holds Tryz.pinned (.plain (OpenSpec.ofChange indexFindsAllSpec)) indexFindsAllCard

/-- THE SECOND FORM's CARD OF 'customhouselaw16.IndexMatchesReference'. -/
def indexMatchesReferenceUptoCard : Claim7 := { stood := { row := indexMatchesReferenceUptoRow, standIns := [], harness := (true, "de0e0913ef2d6b3e0d2d2940b1164e77c87e0d6e9670e7bf44857c147b01dc73"), looks := true }, kinds := [], alts := [], laidByText := true, laidKinds := [.data, .data, .data, .data, .sentinel, .sentinel, .pinned, .pinned], laidTests := true, laidLooks := .later }
def IndexMatchesReferenceUptoCardSaid : Prop := Claim7.holds Tryz.pinned (.plain (OpenSpec.upto indexMatchesReferenceSpec)) indexMatchesReferenceUptoCard

/-- THE SECOND FORM's CARD OF 'customhouselaw16.IndexOrder'. -/
def indexOrderUptoCard : Claim7 := { stood := { row := indexOrderUptoRow, standIns := [], harness := (true, "de0e0913ef2d6b3e0d2d2940b1164e77c87e0d6e9670e7bf44857c147b01dc73"), looks := true }, kinds := [], alts := [], laidByText := true, laidKinds := [.data, .data, .data, .data, .sentinel, .sentinel, .pinned, .pinned], laidTests := true, laidLooks := .later }
def IndexOrderUptoCardSaid : Prop := Claim7.holds Tryz.pinned (.plain (OpenSpec.upto indexOrderSpec)) indexOrderUptoCard

/-- THE SECOND FORM's CARD OF 'customhouselaw16.IndexDrops'. -/
def indexDropsUptoCard : Claim7 := { stood := { row := indexDropsUptoRow, standIns := [], harness := (true, "de0e0913ef2d6b3e0d2d2940b1164e77c87e0d6e9670e7bf44857c147b01dc73"), looks := true }, kinds := [], alts := [], laidByText := true, laidKinds := [.data, .data, .data, .data, .sentinel, .sentinel, .pinned, .pinned], laidTests := true, laidLooks := .later }
def IndexDropsUptoCardSaid : Prop := Claim7.holds Tryz.pinned (.plain (OpenSpec.upto indexDropsSpec)) indexDropsUptoCard

/-- THE SECOND FORM's CARD OF 'customhouselaw16.IndexBounds'. -/
def indexBoundsUptoCard : Claim7 := { stood := { row := indexBoundsUptoRow, standIns := [], harness := (true, "de0e0913ef2d6b3e0d2d2940b1164e77c87e0d6e9670e7bf44857c147b01dc73"), looks := true }, kinds := [], alts := [], laidByText := true, laidKinds := [.data, .data, .data, .data, .sentinel, .sentinel, .pinned, .pinned], laidTests := true, laidLooks := .later }
def IndexBoundsUptoCardSaid : Prop := Claim7.holds Tryz.pinned (.plain (OpenSpec.upto indexBoundsSpec)) indexBoundsUptoCard

/-- THE SECOND FORM's CARD OF 'customhouselaw16.IndexCopies'. -/
def indexCopiesUptoCard : Claim7 := { stood := { row := indexCopiesUptoRow, standIns := [], harness := (true, "de0e0913ef2d6b3e0d2d2940b1164e77c87e0d6e9670e7bf44857c147b01dc73"), looks := true }, kinds := [], alts := [], laidByText := true, laidKinds := [.data, .data, .data, .data, .sentinel, .sentinel, .pinned, .pinned], laidTests := true, laidLooks := .later }
def IndexCopiesUptoCardSaid : Prop := Claim7.holds Tryz.pinned (.plain (OpenSpec.upto indexCopiesSpec)) indexCopiesUptoCard

/-- THE SECOND FORM's CARD OF 'customhouselaw16.IndexNothing'. -/
def indexNothingUptoCard : Claim7 := { stood := { row := indexNothingUptoRow, standIns := [], harness := (true, "de0e0913ef2d6b3e0d2d2940b1164e77c87e0d6e9670e7bf44857c147b01dc73"), looks := true }, kinds := [], alts := [], laidByText := true, laidKinds := [.data, .data, .data, .data, .sentinel, .sentinel, .pinned, .pinned], laidTests := true, laidLooks := .later }
def IndexNothingUptoCardSaid : Prop := Claim7.holds Tryz.pinned (.plain (OpenSpec.upto indexNothingSpec)) indexNothingUptoCard

/-- THE SECOND FORM's CARD OF 'customhouselaw16.IndexFindsAll'. -/
def indexFindsAllUptoCard : Claim7 := { stood := { row := indexFindsAllUptoRow, standIns := [], harness := (true, "de0e0913ef2d6b3e0d2d2940b1164e77c87e0d6e9670e7bf44857c147b01dc73"), looks := true }, kinds := [], alts := [], laidByText := true, laidKinds := [.data, .data, .data, .data, .sentinel, .sentinel, .pinned, .pinned], laidTests := true, laidLooks := .later }
def IndexFindsAllUptoCardSaid : Prop := Claim7.holds Tryz.pinned (.plain (OpenSpec.upto indexFindsAllSpec)) indexFindsAllUptoCard
end Rows
end Go.Proofs.YtdghfenbfbdijaaGreatDoor
