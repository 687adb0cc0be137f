/- Names: the reference's: walks. -/
import Derived.Test.YtllkiedikjgkbaaGreatDoorLex1
namespace Go
open Go.RowKit
end Go
namespace Go.Proofs.YtllkiedikjgkbaaGreatDoor
open Go.RowKit
end Go.Proofs.YtllkiedikjgkbaaGreatDoor
