/- Names: the reference's: walks. -/
import Derived.Test.YtbgimpeklblcjaaGreatDoorLex1
namespace Go
open Go.RowKit
end Go
namespace Go.Proofs.YtbgimpeklblcjaaGreatDoor
open Go.RowKit
end Go.Proofs.YtbgimpeklblcjaaGreatDoor
