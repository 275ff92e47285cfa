/-
  DERIVED. GIVEN WITH THE SEED: THE CARDS: each row of YtdchjacccmajcaaGreatDoorRows.lean that lists a variable, with what it lists TIED to the program's text (the seventh form; the later family's looks); each row that meets fmt, with fmt's text TOLD by the authors' own Lean function (tested against real Go, not proved from fmt's source: count such statements apart). THE CARD IS WHAT COUNTS. Prove the row's statement (the work); the ties are given (YtdchjacccmajcaaGreatDoorTie.lean); close each card by the builder's one call (the guide's Derived/Test/ToyasCard.lean, 'card_holds'). Laid BY PROGRAM, IN A SANDBOX (cutbox-door.mjs). By AI agents, Wed Nov 11 2026. No macro, syntax, notation, axiom, sorry.
-/
import Derived.Test.YtdchjacccmajcaaGreatDoorRows
import GoSem.ClaimSeven
namespace Go.Proofs.YtdchjacccmajcaaGreatDoor
namespace Rows

/-- THE TIED CARD OF 'customhouselaw10.RewriteFinds'. -/
def rewriteFindsCard : Claim7 := { stood := { row := rewriteFindsRow, standIns := [], harness := (true, "7476c41e0d855bf6d9ff4c0fb6c49cc91d0407a53d8d7e6a7209b7bc1494e8cd"), looks := true }, kinds := [], alts := [], laidByText := true, laidKinds := [.data, .data, .data, .data, .pinned, .pinned], laidTests := true, laidLooks := .later }
def RewriteFindsCardSaid : Prop := Claim7.holds Tryz.pinned (.plain (OpenSpec.ofChange rewriteFindsSpec)) rewriteFindsCard

/-- THE TIED CARD OF 'customhouselaw10.RewriteForms'. -/
def rewriteFormsCard : Claim7 := { stood := { row := rewriteFormsRow, standIns := [], harness := (true, "7476c41e0d855bf6d9ff4c0fb6c49cc91d0407a53d8d7e6a7209b7bc1494e8cd"), looks := true }, kinds := [], alts := [], laidByText := true, laidKinds := [.data, .data, .data, .data, .pinned, .pinned], laidTests := true, laidLooks := .later }
def RewriteFormsCardSaid : Prop := Claim7.holds Tryz.pinned (.plain (OpenSpec.ofChange rewriteFormsSpec)) rewriteFormsCard

/-- THE TIED CARD OF 'customhouselaw10.RewriteMore'. -/
def rewriteMoreCard : Claim7 := { stood := { row := rewriteMoreRow, standIns := [], harness := (true, "7476c41e0d855bf6d9ff4c0fb6c49cc91d0407a53d8d7e6a7209b7bc1494e8cd"), looks := true }, kinds := [], alts := [], laidByText := true, laidKinds := [.data, .data, .data, .data, .pinned, .pinned], laidTests := true, laidLooks := .later }
def RewriteMoreCardSaid : Prop := Claim7.holds Tryz.pinned (.plain (OpenSpec.ofChange rewriteMoreSpec)) rewriteMoreCard

/-- THE TIED CARD OF 'customhouselaw10.RewriteRules'. -/
def rewriteRulesCard : Claim7 := { stood := { row := rewriteRulesRow, standIns := [], harness := (true, "7476c41e0d855bf6d9ff4c0fb6c49cc91d0407a53d8d7e6a7209b7bc1494e8cd"), looks := true }, kinds := [], alts := [], laidByText := true, laidKinds := [.data, .data, .data, .data, .pinned, .pinned], laidTests := true, laidLooks := .later }
def RewriteRulesCardSaid : Prop := Claim7.holds Tryz.pinned (.plain (OpenSpec.ofChange rewriteRulesSpec)) rewriteRulesCard

/-- THE TIED CARD OF 'customhouselaw10.RewriteFolds'. -/
def rewriteFoldsCard : Claim7 := { stood := { row := rewriteFoldsRow, standIns := [], harness := (true, "7476c41e0d855bf6d9ff4c0fb6c49cc91d0407a53d8d7e6a7209b7bc1494e8cd"), looks := true }, kinds := [], alts := [], laidByText := true, laidKinds := [.data, .data, .data, .data, .pinned, .pinned], laidTests := true, laidLooks := .later }
def RewriteFoldsCardSaid : Prop := Claim7.holds Tryz.pinned (.plain (OpenSpec.ofChange rewriteFoldsSpec)) rewriteFoldsCard

/-- THE TIED CARD OF 'customhouselaw10.RewriteVariants'. -/
def rewriteVariantsCard : Claim7 := { stood := { row := rewriteVariantsRow, standIns := [], harness := (true, "7476c41e0d855bf6d9ff4c0fb6c49cc91d0407a53d8d7e6a7209b7bc1494e8cd"), looks := true }, kinds := [], alts := [], laidByText := true, laidKinds := [.data, .data, .data, .data, .pinned, .pinned], laidTests := true, laidLooks := .later }
def RewriteVariantsCardSaid : Prop := Claim7.holds Tryz.pinned (.plain (OpenSpec.ofChange rewriteVariantsSpec)) rewriteVariantsCard

/-- THE TIED CARD OF 'customhouselaw10.RewriteMatchesReference'. -/
def rewriteMatchesReferenceCard : Claim7 := { stood := { row := rewriteMatchesReferenceRow, standIns := [], harness := (true, "7476c41e0d855bf6d9ff4c0fb6c49cc91d0407a53d8d7e6a7209b7bc1494e8cd"), looks := true }, kinds := [], alts := [], laidByText := true, laidKinds := [.data, .data, .data, .data, .pinned, .pinned], laidTests := true, laidLooks := .later }
def RewriteMatchesReferenceCardSaid : Prop := Claim7.holds Tryz.pinned (.plain (OpenSpec.ofChange rewriteMatchesReferenceSpec)) rewriteMatchesReferenceCard

/-- THE TIED CARD OF 'customhouselaw10.RewriteTextsAsReference'. -/
def rewriteTextsAsReferenceCard : Claim7 := { stood := { row := rewriteTextsAsReferenceRow, standIns := [], harness := (true, "7476c41e0d855bf6d9ff4c0fb6c49cc91d0407a53d8d7e6a7209b7bc1494e8cd"), looks := true }, kinds := [], alts := [], laidByText := true, laidKinds := [.data, .data, .data, .data, .sentinel, .sentinel, .pinned, .pinned], laidTests := true, laidLooks := .later }
def RewriteTextsAsReferenceCardSaid : Prop := Claim7.holds Tryz.pinned (.plain (OpenSpec.ofChange rewriteTextsAsReferenceSpec)) rewriteTextsAsReferenceCard

/-- THE TIED CARD OF 'customhouselaw10.RewriteTexts'. -/
def rewriteTextsCard : Claim7 := { stood := { row := rewriteTextsRow, standIns := [], harness := (true, "7476c41e0d855bf6d9ff4c0fb6c49cc91d0407a53d8d7e6a7209b7bc1494e8cd"), looks := true }, kinds := [], alts := [], laidByText := true, laidKinds := [.data, .data, .data, .data, .sentinel, .sentinel, .pinned, .pinned], laidTests := true, laidLooks := .later }
def RewriteTextsCardSaid : Prop := Claim7.holds Tryz.pinned (.plain (OpenSpec.ofChange rewriteTextsSpec)) rewriteTextsCard

/-- THE SECOND FORM's CARD OF 'customhouselaw10.RewriteFinds'. -/
def rewriteFindsUptoCard : Claim7 := { stood := { row := rewriteFindsUptoRow, standIns := [], harness := (true, "7476c41e0d855bf6d9ff4c0fb6c49cc91d0407a53d8d7e6a7209b7bc1494e8cd"), looks := true }, kinds := [], alts := [], laidByText := true, laidKinds := [.data, .data, .data, .data, .pinned, .pinned], laidTests := true, laidLooks := .later }
def RewriteFindsUptoCardSaid : Prop := Claim7.holds Tryz.pinned (.plain (OpenSpec.upto rewriteFindsSpec)) rewriteFindsUptoCard

/-- THE SECOND FORM's CARD OF 'customhouselaw10.RewriteForms'. -/
def rewriteFormsUptoCard : Claim7 := { stood := { row := rewriteFormsUptoRow, standIns := [], harness := (true, "7476c41e0d855bf6d9ff4c0fb6c49cc91d0407a53d8d7e6a7209b7bc1494e8cd"), looks := true }, kinds := [], alts := [], laidByText := true, laidKinds := [.data, .data, .data, .data, .pinned, .pinned], laidTests := true, laidLooks := .later }
def RewriteFormsUptoCardSaid : Prop := Claim7.holds Tryz.pinned (.plain (OpenSpec.upto rewriteFormsSpec)) rewriteFormsUptoCard

/-- THE SECOND FORM's CARD OF 'customhouselaw10.RewriteMore'. -/
def rewriteMoreUptoCard : Claim7 := { stood := { row := rewriteMoreUptoRow, standIns := [], harness := (true, "7476c41e0d855bf6d9ff4c0fb6c49cc91d0407a53d8d7e6a7209b7bc1494e8cd"), looks := true }, kinds := [], alts := [], laidByText := true, laidKinds := [.data, .data, .data, .data, .pinned, .pinned], laidTests := true, laidLooks := .later }
def RewriteMoreUptoCardSaid : Prop := Claim7.holds Tryz.pinned (.plain (OpenSpec.upto rewriteMoreSpec)) rewriteMoreUptoCard

/-- THE SECOND FORM's CARD OF 'customhouselaw10.RewriteRules'. -/
def rewriteRulesUptoCard : Claim7 := { stood := { row := rewriteRulesUptoRow, standIns := [], harness := (true, "7476c41e0d855bf6d9ff4c0fb6c49cc91d0407a53d8d7e6a7209b7bc1494e8cd"), looks := true }, kinds := [], alts := [], laidByText := true, laidKinds := [.data, .data, .data, .data, .pinned, .pinned], laidTests := true, laidLooks := .later }
def RewriteRulesUptoCardSaid : Prop := Claim7.holds Tryz.pinned (.plain (OpenSpec.upto rewriteRulesSpec)) rewriteRulesUptoCard

/-- THE SECOND FORM's CARD OF 'customhouselaw10.RewriteFolds'. -/
def rewriteFoldsUptoCard : Claim7 := { stood := { row := rewriteFoldsUptoRow, standIns := [], harness := (true, "7476c41e0d855bf6d9ff4c0fb6c49cc91d0407a53d8d7e6a7209b7bc1494e8cd"), looks := true }, kinds := [], alts := [], laidByText := true, laidKinds := [.data, .data, .data, .data, .pinned, .pinned], laidTests := true, laidLooks := .later }
def RewriteFoldsUptoCardSaid : Prop := Claim7.holds Tryz.pinned (.plain (OpenSpec.upto rewriteFoldsSpec)) rewriteFoldsUptoCard

/-- THE SECOND FORM's CARD OF 'customhouselaw10.RewriteVariants'. -/
def rewriteVariantsUptoCard : Claim7 := { stood := { row := rewriteVariantsUptoRow, standIns := [], harness := (true, "7476c41e0d855bf6d9ff4c0fb6c49cc91d0407a53d8d7e6a7209b7bc1494e8cd"), looks := true }, kinds := [], alts := [], laidByText := true, laidKinds := [.data, .data, .data, .data, .pinned, .pinned], laidTests := true, laidLooks := .later }
def RewriteVariantsUptoCardSaid : Prop := Claim7.holds Tryz.pinned (.plain (OpenSpec.upto rewriteVariantsSpec)) rewriteVariantsUptoCard

/-- THE SECOND FORM's CARD OF 'customhouselaw10.RewriteMatchesReference'. -/
def rewriteMatchesReferenceUptoCard : Claim7 := { stood := { row := rewriteMatchesReferenceUptoRow, standIns := [], harness := (true, "7476c41e0d855bf6d9ff4c0fb6c49cc91d0407a53d8d7e6a7209b7bc1494e8cd"), looks := true }, kinds := [], alts := [], laidByText := true, laidKinds := [.data, .data, .data, .data, .pinned, .pinned], laidTests := true, laidLooks := .later }
def RewriteMatchesReferenceUptoCardSaid : Prop := Claim7.holds Tryz.pinned (.plain (OpenSpec.upto rewriteMatchesReferenceSpec)) rewriteMatchesReferenceUptoCard

/-- THE SECOND FORM's CARD OF 'customhouselaw10.RewriteTextsAsReference'. -/
def rewriteTextsAsReferenceUptoCard : Claim7 := { stood := { row := rewriteTextsAsReferenceUptoRow, standIns := [], harness := (true, "7476c41e0d855bf6d9ff4c0fb6c49cc91d0407a53d8d7e6a7209b7bc1494e8cd"), looks := true }, kinds := [], alts := [], laidByText := true, laidKinds := [.data, .data, .data, .data, .sentinel, .sentinel, .pinned, .pinned], laidTests := true, laidLooks := .later }
def RewriteTextsAsReferenceUptoCardSaid : Prop := Claim7.holds Tryz.pinned (.plain (OpenSpec.upto rewriteTextsAsReferenceSpec)) rewriteTextsAsReferenceUptoCard

/-- THE SECOND FORM's CARD OF 'customhouselaw10.RewriteTexts'. -/
def rewriteTextsUptoCard : Claim7 := { stood := { row := rewriteTextsUptoRow, standIns := [], harness := (true, "7476c41e0d855bf6d9ff4c0fb6c49cc91d0407a53d8d7e6a7209b7bc1494e8cd"), looks := true }, kinds := [], alts := [], laidByText := true, laidKinds := [.data, .data, .data, .data, .sentinel, .sentinel, .pinned, .pinned], laidTests := true, laidLooks := .later }
def RewriteTextsUptoCardSaid : Prop := Claim7.holds Tryz.pinned (.plain (OpenSpec.upto rewriteTextsSpec)) rewriteTextsUptoCard
end Rows
end Go.Proofs.YtdchjacccmajcaaGreatDoor
