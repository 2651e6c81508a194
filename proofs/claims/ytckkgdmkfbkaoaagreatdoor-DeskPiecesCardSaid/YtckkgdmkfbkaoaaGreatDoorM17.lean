/- Texts of the proof. -/
import Derived.Test.YtckkgdmkfbkaoaaGreatDoorM15
import Derived.Deep.DeepCutAuto
namespace Go.Proofs.YtckkgdmkfbkaoaaGreatDoor
set_option maxRecDepth 100000
set_option maxHeartbeats 32000000
set_option linter.all false
open Go.RowKit
theorem Qwo {p q p' q':List Int}(h:p++q=p'++q')(e:bl p=bl p'):p=p'∧q=q':=by
 have h1:=ZB p;have h2:=ZB p';exact Qfl (u:=1) ⟨by omega,by omega⟩ h (by show (cnt p).b=(cnt p').b;omega)
attribute [local go_sem] XP
end Go.Proofs.YtckkgdmkfbkaoaaGreatDoor
