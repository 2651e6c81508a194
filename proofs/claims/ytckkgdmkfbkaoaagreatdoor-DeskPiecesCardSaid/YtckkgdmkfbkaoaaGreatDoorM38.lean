/- Texts of the proof. -/
import Derived.Test.YtckkgdmkfbkaoaaGreatDoorM25
import Derived.Laws.MakeOwn
import Derived.RegionTactic
import Derived.Deep.DeepCutAuto
namespace Go.Proofs.YtckkgdmkfbkaoaaGreatDoor
set_option maxRecDepth 100000
set_option maxHeartbeats 32000000
set_option linter.all false
open Go.RowKit
theorem Sl.of_blk {w:World}{g:Nat}{t:TypeId}{xs:List Value}{n:Nat}(h:Blk w g t xs.toArray)(hl:xs.length=n)(hm:n≤maxLen):Sl w 1 (.slice (some ⟨g,0,none⟩) n n) n xs:=by
 refine⟨_,_,rfl,by rw[hl,Nat.mul_one],Wak _,hm,(fun h=>nomatch h),fun _=>⟨_,rfl,h.lt,fun j u hu=>?_⟩⟩
 have:(⟨g,0,none⟩:Addr).add j=⟨g,j,none⟩:=by unfold Addr.add;split<;>simp_all
 rw[this,h.cell j,Wab];exact hu
section
variable {w w':World}{gG gP gD N:Nat}{P:List U.Bs}{D:List Bool}
end
section
variable {S:SS}{N m:Nat}
end
section
attribute [local go_sem] Qz YY
end
end Go.Proofs.YtckkgdmkfbkaoaaGreatDoor
