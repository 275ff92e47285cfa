import Derived.Test.YtdghfenbfbdijaaGreatDoorZMFm
import Derived.Test.YtdghfenbfbdijaaGreatDoorZMRew
import Derived.IntWalk
namespace Go.Proofs.YtdghfenbfbdijaaGreatDoor
open Go.RowKit Go.Lib Go.Maps
end Go.Proofs.YtdghfenbfbdijaaGreatDoor
