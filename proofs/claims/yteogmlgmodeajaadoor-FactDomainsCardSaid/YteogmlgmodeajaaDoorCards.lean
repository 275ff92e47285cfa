/-
  DERIVED. GIVEN WITH THE SEED: THE CARDS: each row of YteogmlgmodeajaaDoorRows.lean that lists a variable, with what it lists TIED to the program's text (the seventh form; the later family's looks); each row that meets fmt, with fmt's text TOLD by the authors' own Lean function (tested against real Go, not proved from fmt's source: count such statements apart). THE CARD IS WHAT COUNTS. Prove the row's statement (the work); the ties are given (YteogmlgmodeajaaDoorTie.lean); close each card by the builder's one call (the guide's Derived/Test/ToyasCard.lean, 'card_holds'). Laid BY PROGRAM, IN A SANDBOX (cutbox-door.mjs). By AI agents, Wed Nov 11 2026. No macro, syntax, notation, axiom, sorry.
-/
import Derived.Test.YteogmlgmodeajaaDoorRows
import GoSem.ClaimSeven
namespace Go.Proofs.YteogmlgmodeajaaDoor
namespace Rows

/-- THE TIED CARD OF 'customhouselaw24.FactDomains'. -/
def factDomainsCard : Claim7 := { stood := { row := factDomainsRow, standIns := [], harness := (true, "db0fe11b146307655dd035587cb0eb10bbce18b2021506473d617e944e376859"), looks := true }, kinds := [], alts := [], laidByText := true, laidKinds := [.data, .data, .data, .sentinel, .sentinel], laidTests := true, laidLooks := .later }
def FactDomainsCardSaid : Prop := Claim7.holds Tryd.pinned (.plain (OpenSpec.ofChange factDomainsSpec)) factDomainsCard

/-- THE TIED CARD OF 'customhouselaw24.FactCases'. -/
def factCasesCard : Claim7 := { stood := { row := factCasesRow, standIns := [], harness := (true, "db0fe11b146307655dd035587cb0eb10bbce18b2021506473d617e944e376859"), looks := true }, kinds := [], alts := [], laidByText := true, laidKinds := [.data, .data, .data, .sentinel, .sentinel], laidTests := true, laidLooks := .later }
def FactCasesCardSaid : Prop := Claim7.holds Tryd.pinned (.plain (OpenSpec.ofChange factCasesSpec)) factCasesCard

/-- THE TIED CARD OF 'customhouselaw24.FactOrder'. -/
def factOrderCard : Claim7 := { stood := { row := factOrderRow, standIns := [], harness := (true, "db0fe11b146307655dd035587cb0eb10bbce18b2021506473d617e944e376859"), looks := true }, kinds := [], alts := [], laidByText := true, laidKinds := [.data, .data, .data, .sentinel, .sentinel], laidTests := true, laidLooks := .later }
def FactOrderCardSaid : Prop := Claim7.holds Tryd.pinned (.plain (OpenSpec.ofChange factOrderSpec)) factOrderCard

/-- THE TIED CARD OF 'customhouselaw24.FactWalks'. -/
def factWalksCard : Claim7 := { stood := { row := factWalksRow, standIns := [], harness := (true, "db0fe11b146307655dd035587cb0eb10bbce18b2021506473d617e944e376859"), looks := true }, kinds := [], alts := [], laidByText := true, laidKinds := [.data, .data, .data, .sentinel, .sentinel], laidTests := true, laidLooks := .later }
def FactWalksCardSaid : Prop := Claim7.holds Tryd.pinned (.plain (OpenSpec.ofChange factWalksSpec)) factWalksCard

/-- THE TIED CARD OF 'customhouselaw24.FactGaps'. -/
def factGapsCard : Claim7 := { stood := { row := factGapsRow, standIns := [], harness := (true, "db0fe11b146307655dd035587cb0eb10bbce18b2021506473d617e944e376859"), looks := true }, kinds := [], alts := [], laidByText := true, laidKinds := [.data, .data, .data, .sentinel, .sentinel], laidTests := true, laidLooks := .later }
def FactGapsCardSaid : Prop := Claim7.holds Tryd.pinned (.plain (OpenSpec.ofChange factGapsSpec)) factGapsCard

/-- THE SECOND FORM's CARD OF 'customhouselaw24.FactDomains'. -/
def factDomainsUptoCard : Claim7 := { stood := { row := factDomainsUptoRow, standIns := [], harness := (true, "db0fe11b146307655dd035587cb0eb10bbce18b2021506473d617e944e376859"), looks := true }, kinds := [], alts := [], laidByText := true, laidKinds := [.data, .data, .data, .sentinel, .sentinel], laidTests := true, laidLooks := .later }
def FactDomainsUptoCardSaid : Prop := Claim7.holds Tryd.pinned (.plain (OpenSpec.upto factDomainsSpec)) factDomainsUptoCard

/-- THE SECOND FORM's CARD OF 'customhouselaw24.FactCases'. -/
def factCasesUptoCard : Claim7 := { stood := { row := factCasesUptoRow, standIns := [], harness := (true, "db0fe11b146307655dd035587cb0eb10bbce18b2021506473d617e944e376859"), looks := true }, kinds := [], alts := [], laidByText := true, laidKinds := [.data, .data, .data, .sentinel, .sentinel], laidTests := true, laidLooks := .later }
def FactCasesUptoCardSaid : Prop := Claim7.holds Tryd.pinned (.plain (OpenSpec.upto factCasesSpec)) factCasesUptoCard

/-- THE SECOND FORM's CARD OF 'customhouselaw24.FactOrder'. -/
def factOrderUptoCard : Claim7 := { stood := { row := factOrderUptoRow, standIns := [], harness := (true, "db0fe11b146307655dd035587cb0eb10bbce18b2021506473d617e944e376859"), looks := true }, kinds := [], alts := [], laidByText := true, laidKinds := [.data, .data, .data, .sentinel, .sentinel], laidTests := true, laidLooks := .later }
def FactOrderUptoCardSaid : Prop := Claim7.holds Tryd.pinned (.plain (OpenSpec.upto factOrderSpec)) factOrderUptoCard

/-- THE SECOND FORM's CARD OF 'customhouselaw24.FactWalks'. -/
def factWalksUptoCard : Claim7 := { stood := { row := factWalksUptoRow, standIns := [], harness := (true, "db0fe11b146307655dd035587cb0eb10bbce18b2021506473d617e944e376859"), looks := true }, kinds := [], alts := [], laidByText := true, laidKinds := [.data, .data, .data, .sentinel, .sentinel], laidTests := true, laidLooks := .later }
def FactWalksUptoCardSaid : Prop := Claim7.holds Tryd.pinned (.plain (OpenSpec.upto factWalksSpec)) factWalksUptoCard

/-- THE SECOND FORM's CARD OF 'customhouselaw24.FactGaps'. -/
def factGapsUptoCard : Claim7 := { stood := { row := factGapsUptoRow, standIns := [], harness := (true, "db0fe11b146307655dd035587cb0eb10bbce18b2021506473d617e944e376859"), looks := true }, kinds := [], alts := [], laidByText := true, laidKinds := [.data, .data, .data, .sentinel, .sentinel], laidTests := true, laidLooks := .later }
def FactGapsUptoCardSaid : Prop := Claim7.holds Tryd.pinned (.plain (OpenSpec.upto factGapsSpec)) factGapsUptoCard
end Rows
end Go.Proofs.YteogmlgmodeajaaDoor
