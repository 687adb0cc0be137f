/- The reference of layer 5: sign, Check: walks. -/
import Derived.Test.YtbgimpeklblcjaaGreatDoorSeC
import Derived.Test.YtbgimpeklblcjaaGreatDoorSemRefs
namespace Go.Proofs.YtbgimpeklblcjaaGreatDoor
open Go.RowKit
end Go.Proofs.YtbgimpeklblcjaaGreatDoor
