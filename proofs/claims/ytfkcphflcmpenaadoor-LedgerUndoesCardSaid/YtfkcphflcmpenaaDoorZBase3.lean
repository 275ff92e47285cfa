/-
  Further words about memory that is left as it was. NO PROGRAM IN THIS TEXT.
-/
import Derived.Test.YtfkcphflcmpenaaDoorZBase2
namespace Go.Proofs.YtfkcphflcmpenaaDoor
open Go.RowKit

theorem Below.step {w w1 w2 : World} (h1 : Below w.heap.size w w1) (h2 : Below w1.heap.size w1 w2) : Below w.heap.size w w2 := h1.trans (h2.mono h1.size)

theorem Below.drewQ (w : World) (q : Nat) : Below w.heap.size w (w.drewN q) := by
  induction q with
  | zero => exact Below.refl _ w
  | succ q ih => exact ih.drew

end Go.Proofs.YtfkcphflcmpenaaDoor
