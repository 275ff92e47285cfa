import Derived.Test.YtdghfenbfbdijaaGreatDoorZOpenMore
import Derived.OwnWalk
namespace Go.Proofs.YtdghfenbfbdijaaGreatDoor
open Go.RowKit Go.Deep
end Go.Proofs.YtdghfenbfbdijaaGreatDoor
