/-
  The seat's door: its listed variables are met by what the door's own run leaves; the table of powers by what is listed. Conditions: none.
-/
import Derived.Test.YteogmlgmodeajaaGreatDoorRows
import Derived.ProofKit
import Derived.LaidMore
import Derived.OpenShut
import Derived.Stop.Joined
import Derived.SevenTiedAt
import Derived.MakeChecks
import Derived.Lib.LaidTab
import Derived.Stop.LaidErr
import Derived.Test.YteogmlgmodeajaaGreatDoorZFaLib
namespace Go.Proofs.YteogmlgmodeajaaGreatDoor
open Go.ChangeShapes Go.WideShapes Go.ChangeAt Go.RowKit Go.Lib

theorem own : ownKnob Tryz.prog.godebug = none := by kernel_rfl

/-- the variables that each row of this seat lists -/
def laidAll : List (String × DataW Unit) := Rows.factMatchesReferenceRow.laid

/-- what the door's own run leaves meets them -/
theorem door_met (os : Os) (args : Array Value) : laidMetH Tryz.prog laidAll ((World.doorLaid Tryz.prog 400 os).forCall (fun _ _ => 0) ⟨#[], args, []⟩).memory :=
  laidMetH_of_parts3 (fuel := 8) (laidMet_of_run' 8 (by kernel_rfl) (by kernel_rfl)) (by kernel_rfl) (by kernel_rfl)

theorem tab_met {W : World} (h : laidMetH Tryz.prog laidAll W) : Tab10 W := by
  rw [Go.MakeChecks.laidMetH_plain Tryz.prog laidAll _ (by kernel_rfl)] at h
  have h3 : laidMet Tryz.prog (("internal/strconv.uint64pow10", tabData .u64 pow10Tab) :: Rows.factMatchesReferenceRow.laid.drop 3) W := h.tail.tail
  exact Tab10.of (tabIs_of_head (g := 0) (t := 141) (e := 105) (n := 20) (by kernel_rfl) (by kernel_rfl) Tryz.underlying141 Tryz.underlying105 (by kernel_rfl) (by kernel_rfl) h3)

end Go.Proofs.YteogmlgmodeajaaGreatDoor
