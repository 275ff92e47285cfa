import Derived.Test.YtdghfenbfbdijaaGreatDoorZMIy
import Derived.Deep.CutRange
namespace Go.Proofs.YtdghfenbfbdijaaGreatDoor
open Go.RowKit Go.Lib Go.Maps
end Go.Proofs.YtdghfenbfbdijaaGreatDoor
