/- Texts of the proof. -/
import Derived.Test.YtckkgdmkfbkaoaaGreatDoorM41
import Derived.WideLaws
import Derived.MapKept
namespace Go.Proofs.YtckkgdmkfbkaoaaGreatDoor
set_option maxRecDepth 100000
set_option maxHeartbeats 32000000
set_option linter.all false
open Go.RowKit
namespace CL
end CL
attribute [local go_sem] Cn.v_eq
end Go.Proofs.YtckkgdmkfbkaoaaGreatDoor
