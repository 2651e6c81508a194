/- Texts of the proof. -/
import Derived.Test.YtdgdajnbkfmijaaGreatDoorM12
import Derived.Deep.DeepCutAuto
namespace Go.Proofs.YtdgdajnbkfmijaaGreatDoor
set_option maxRecDepth 100000
set_option maxHeartbeats 32000000
open Go.RowKit
attribute [local go_sem] Xu
end Go.Proofs.YtdgdajnbkfmijaaGreatDoor
