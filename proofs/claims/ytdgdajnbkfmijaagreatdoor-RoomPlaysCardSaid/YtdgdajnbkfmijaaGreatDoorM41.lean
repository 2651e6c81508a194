/- Texts of the proof. -/
import Derived.Test.YtdgdajnbkfmijaaGreatDoorM28
import Derived.Sort.CutIn
import Derived.Stop.RegionWithIn
namespace Go.Proofs.YtdgdajnbkfmijaaGreatDoor
set_option maxRecDepth 100000
set_option maxHeartbeats 32000000
section
open Go.RowKit Go.Shelf Go.Sort
section
variable {n:Nat}{P:Program}{ops:Array Oper}{md:Region.Mode}{Q:Exit→Act→World→Prop}{l:Nat}
end
attribute [local go_sem] Oper.semAt_some Cn.v_eq Qs3
end
section
open Go.RowKit
attribute [local go_sem] Cn.v_eq
end
end Go.Proofs.YtdgdajnbkfmijaaGreatDoor
