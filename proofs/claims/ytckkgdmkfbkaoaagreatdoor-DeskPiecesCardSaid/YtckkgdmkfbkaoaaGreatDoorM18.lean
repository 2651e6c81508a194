/- Texts of the proof. -/
import Derived.Test.YtckkgdmkfbkaoaaGreatDoorM7
import Derived.Laws.StructEq
import Derived.BigQuiet
import Derived.Deep.QuietTactic
namespace Go.Proofs.YtckkgdmkfbkaoaaGreatDoor
set_option maxRecDepth 100000
set_option maxHeartbeats 32000000
set_option linter.all false
open Go.RowKit
attribute [local go_sem] Qz
end Go.Proofs.YtckkgdmkfbkaoaaGreatDoor
