/-
 IndexFindsAll: what is computed of the program for the row. Conditions: none.
-/
import Derived.Test.YtdghfenbfbdijaaGreatDoorRows
import Derived.ProofKit
import Derived.OpenShut
import Derived.JoinedOf
namespace Go.Proofs.YtdghfenbfbdijaaGreatDoor
open Go.ChangeShapes Go.WideShapes Go.ChangeAt Go.RowKit
set_option maxRecDepth 1000000 in
set_option maxHeartbeats 4000000 in
theorem indexFindsAll_facts : joinedFacts Tryz.pinned.checked.prog 9 Tryz.f9 Rows.indexFindsAllSpec Rows.indexFindsAllRow = true := by
 unfold joinedFacts
 simp only [Bool.and_eq_true]
 repeat' apply And.intro
 all_goals (as_aux_lemma => kernel_rfl)
end Go.Proofs.YtdghfenbfbdijaaGreatDoor
