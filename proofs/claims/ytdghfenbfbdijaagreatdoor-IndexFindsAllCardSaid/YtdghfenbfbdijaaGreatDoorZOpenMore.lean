import Derived.Test.YtdghfenbfbdijaaGreatDoorZMBase
import Derived.SizedLaws
namespace Go.Proofs.YtdghfenbfbdijaaGreatDoor
open Go.RowKit Go.ChangeShapes Go.WideShapes Go.Deep
section
variable {H : Type} {enc : TypeId × Value → H} {P : Program} {w : World} {base : Nat} {spare : Nat → Bool} {held : Bool}
end
end Go.Proofs.YtdghfenbfbdijaaGreatDoor
