/- The reference of layer 5: sign, Check: walks. -/
import Derived.Test.YtllkiedikjgkbaaGreatDoorSeC
import Derived.Test.YtllkiedikjgkbaaGreatDoorSemRefs
namespace Go.Proofs.YtllkiedikjgkbaaGreatDoor
open Go.RowKit
end Go.Proofs.YtllkiedikjgkbaaGreatDoor
