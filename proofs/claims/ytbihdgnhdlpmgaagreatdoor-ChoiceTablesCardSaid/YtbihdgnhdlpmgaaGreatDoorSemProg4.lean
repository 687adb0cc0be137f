/- The program's versions: Show: a walk. -/
import Derived.Test.YtbihdgnhdlpmgaaGreatDoorSemProg3
import Derived.Deep.RegionHeld3
import Derived.Deep.DeepCutAuto
namespace Go.Proofs.YtbihdgnhdlpmgaaGreatDoor
open Go.RowKit
end Go.Proofs.YtbihdgnhdlpmgaaGreatDoor
