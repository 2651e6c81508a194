/- Texts of the proof. -/
import Derived.Test.YtckkgdmkfbkaoaaGreatDoorM28
import Derived.Test.YtckkgdmkfbkaoaaGreatDoorM38
namespace Go.Proofs.YtckkgdmkfbkaoaaGreatDoor
set_option maxRecDepth 100000
set_option maxHeartbeats 32000000
set_option linter.all false
open Go.RowKit
section
attribute [local go_sem] Qz YY
end
end Go.Proofs.YtckkgdmkfbkaoaaGreatDoor
