/-
  DERIVED. GIVEN WITH THE SEED: THE CARDS: each row of YthibphklchalkaaDoorRows.lean that lists a variable, with what it lists TIED to the program's text (the seventh form; the later family's looks); each row that meets fmt, with fmt's text TOLD by the authors' own Lean function (tested against real Go, not proved from fmt's source: count such statements apart). THE CARD IS WHAT COUNTS. Prove the row's statement (the work); the ties are given (YthibphklchalkaaDoorTie.lean); close each card by the builder's one call (the guide's Derived/Test/ToyasCard.lean, 'card_holds'). Laid BY PROGRAM, IN A SANDBOX (cutbox-door.mjs). By AI agents, Wed Nov 11 2026. No macro, syntax, notation, axiom, sorry.
-/
import Derived.Test.YthibphklchalkaaDoorRows
import GoSem.ClaimSeven
namespace Go.Proofs.YthibphklchalkaaDoor
namespace Rows

/-- THE TIED CARD OF 'customhouselaw11.AlignCheapest'. -/
def alignCheapestCard : Claim7 := { stood := { row := alignCheapestRow, standIns := [], harness := (true, "508cabf71ff0dc31f2624fc5fea27890df0ed89f31050821e4f7a08e0ae97fd4"), looks := false }, kinds := [], alts := [], laidByText := true, laidKinds := [.data, .pinned, .pinned], laidTests := true, laidLooks := .later }
def AlignCheapestCardSaid : Prop := Claim7.holds Tryd.pinned (.plain (OpenSpec.ofChange alignCheapestSpec)) alignCheapestCard

/-- THE TIED CARD OF 'customhouselaw11.AlignSymmetric'. -/
def alignSymmetricCard : Claim7 := { stood := { row := alignSymmetricRow, standIns := [], harness := (true, "508cabf71ff0dc31f2624fc5fea27890df0ed89f31050821e4f7a08e0ae97fd4"), looks := false }, kinds := [], alts := [], laidByText := true, laidKinds := [.data, .pinned, .pinned], laidTests := true, laidLooks := .later }
def AlignSymmetricCardSaid : Prop := Claim7.holds Tryd.pinned (.plain (OpenSpec.ofChange alignSymmetricSpec)) alignSymmetricCard

/-- THE TIED CARD OF 'customhouselaw11.AlignFolds'. -/
def alignFoldsCard : Claim7 := { stood := { row := alignFoldsRow, standIns := [], harness := (true, "508cabf71ff0dc31f2624fc5fea27890df0ed89f31050821e4f7a08e0ae97fd4"), looks := false }, kinds := [], alts := [], laidByText := true, laidKinds := [.data, .pinned, .pinned], laidTests := true, laidLooks := .later }
def AlignFoldsCardSaid : Prop := Claim7.holds Tryd.pinned (.plain (OpenSpec.ofChange alignFoldsSpec)) alignFoldsCard

/-- THE TIED CARD OF 'customhouselaw11.AlignMoreRules'. -/
def alignMoreRulesCard : Claim7 := { stood := { row := alignMoreRulesRow, standIns := [], harness := (true, "508cabf71ff0dc31f2624fc5fea27890df0ed89f31050821e4f7a08e0ae97fd4"), looks := false }, kinds := [], alts := [], laidByText := true, laidKinds := [.data, .pinned, .pinned], laidTests := true, laidLooks := .later }
def AlignMoreRulesCardSaid : Prop := Claim7.holds Tryd.pinned (.plain (OpenSpec.ofChange alignMoreRulesSpec)) alignMoreRulesCard

/-- THE SECOND FORM's CARD OF 'customhouselaw11.AlignCheapest'. -/
def alignCheapestUptoCard : Claim7 := { stood := { row := alignCheapestUptoRow, standIns := [], harness := (true, "508cabf71ff0dc31f2624fc5fea27890df0ed89f31050821e4f7a08e0ae97fd4"), looks := false }, kinds := [], alts := [], laidByText := true, laidKinds := [.data, .pinned, .pinned], laidTests := true, laidLooks := .later }
def AlignCheapestUptoCardSaid : Prop := Claim7.holds Tryd.pinned (.plain (OpenSpec.upto alignCheapestSpec)) alignCheapestUptoCard

/-- THE SECOND FORM's CARD OF 'customhouselaw11.AlignSymmetric'. -/
def alignSymmetricUptoCard : Claim7 := { stood := { row := alignSymmetricUptoRow, standIns := [], harness := (true, "508cabf71ff0dc31f2624fc5fea27890df0ed89f31050821e4f7a08e0ae97fd4"), looks := false }, kinds := [], alts := [], laidByText := true, laidKinds := [.data, .pinned, .pinned], laidTests := true, laidLooks := .later }
def AlignSymmetricUptoCardSaid : Prop := Claim7.holds Tryd.pinned (.plain (OpenSpec.upto alignSymmetricSpec)) alignSymmetricUptoCard

/-- THE SECOND FORM's CARD OF 'customhouselaw11.AlignFolds'. -/
def alignFoldsUptoCard : Claim7 := { stood := { row := alignFoldsUptoRow, standIns := [], harness := (true, "508cabf71ff0dc31f2624fc5fea27890df0ed89f31050821e4f7a08e0ae97fd4"), looks := false }, kinds := [], alts := [], laidByText := true, laidKinds := [.data, .pinned, .pinned], laidTests := true, laidLooks := .later }
def AlignFoldsUptoCardSaid : Prop := Claim7.holds Tryd.pinned (.plain (OpenSpec.upto alignFoldsSpec)) alignFoldsUptoCard

/-- THE SECOND FORM's CARD OF 'customhouselaw11.AlignMoreRules'. -/
def alignMoreRulesUptoCard : Claim7 := { stood := { row := alignMoreRulesUptoRow, standIns := [], harness := (true, "508cabf71ff0dc31f2624fc5fea27890df0ed89f31050821e4f7a08e0ae97fd4"), looks := false }, kinds := [], alts := [], laidByText := true, laidKinds := [.data, .pinned, .pinned], laidTests := true, laidLooks := .later }
def AlignMoreRulesUptoCardSaid : Prop := Claim7.holds Tryd.pinned (.plain (OpenSpec.upto alignMoreRulesSpec)) alignMoreRulesUptoCard
end Rows
end Go.Proofs.YthibphklchalkaaDoor
