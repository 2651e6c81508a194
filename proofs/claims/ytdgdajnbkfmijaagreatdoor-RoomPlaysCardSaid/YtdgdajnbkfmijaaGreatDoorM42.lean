/- Texts of the proof. -/
import Derived.Test.YtdgdajnbkfmijaaGreatDoorM16
import Derived.BigQuiet
import Derived.Deep.QuietTactic
namespace Go.Proofs.YtdgdajnbkfmijaaGreatDoor
set_option maxRecDepth 100000
set_option maxHeartbeats 32000000
open Go.RowKit
attribute [local go_sem] Qr
end Go.Proofs.YtdgdajnbkfmijaaGreatDoor
