/-
  The seat's door: its listed variables are met by what the door's own run leaves. Conditions: none.
-/
import Derived.Test.YtfkcphflcmpenaaDoorRows
import Derived.ProofKit
import Derived.LaidMore
import Derived.OpenShut
import Derived.Stop.Joined
import Derived.SevenTiedAt
namespace Go.Proofs.YtfkcphflcmpenaaDoor
open Go.ChangeShapes Go.WideShapes Go.ChangeAt Go.RowKit

theorem own : ownKnob Tryd.prog.godebug = none := by kernel_rfl

/-- the variables that each row of this seat lists -/
def laidAll : List (String × DataW Unit) := Rows.ledgerMatchesReferenceRow.laid

/-- what the door's own run leaves meets them -/
theorem door_met (os : Os) (args : Array Value) : laidMetH Tryd.prog laidAll ((World.doorLaid Tryd.prog 400 os).forCall (fun _ _ => 0) ⟨#[], args, []⟩).memory :=
  laidMetH_of_parts3 (fuel := 8) (laidMet_of_run' 8 (by kernel_rfl) (by kernel_rfl)) (by kernel_rfl) (by kernel_rfl)

end Go.Proofs.YtfkcphflcmpenaaDoor
