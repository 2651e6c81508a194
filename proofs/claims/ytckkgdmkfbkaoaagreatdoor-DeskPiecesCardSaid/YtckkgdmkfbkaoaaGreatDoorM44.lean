/- Texts of the proof. -/
import Derived.Test.YtckkgdmkfbkaoaaGreatDoorM43
namespace Go.Proofs.YtckkgdmkfbkaoaaGreatDoor
set_option maxRecDepth 100000
set_option maxHeartbeats 32000000
set_option linter.all false
open Go.RowKit
attribute [local go_sem] Cn.v_eq
end Go.Proofs.YtckkgdmkfbkaoaaGreatDoor
