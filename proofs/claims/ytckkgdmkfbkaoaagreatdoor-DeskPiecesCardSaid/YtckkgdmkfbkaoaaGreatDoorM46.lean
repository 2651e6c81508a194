/- Texts of the proof. -/
import Derived.Test.YtckkgdmkfbkaoaaGreatDoorM42
namespace Go.Proofs.YtckkgdmkfbkaoaaGreatDoor
open Go.Proofs.Tryz
set_option maxRecDepth 100000
set_option maxHeartbeats 32000000
set_option linter.all false
open Go.RowKit
def Qvm (f:Nat)(u:Int)(R:List Int)(l:List PT)(w:World)(e:Ending)(w':World):Prop :=
 Only (fun k=>k=f) w w'∧((∃ k:Int,k≠0∧e=.returned (errno k)∧Below w.heap.size w w'∧∀ o k',TnR R l u 1 o k'→k'=k) ∨
  (∃ O X,OpR O X R∧Qd O=Qd l∧O.length=l.length∧(∀ o k',TnR R l u 1 o k'→o=O∧k'=0)∧TnR R l u 1 O 0 ∧
   ((8000<bl (rap X R)∧e=.returned (errno 12)∧Below w.heap.size w w')∨(bl (rap X R)≤8000∧e=.returned .nilIface∧ShF w.heap.size w' f u (rap X R)))))
theorem Qjd {R:List Int}{l:List PT}{u:Int}{v2:Value}{n2 f:Nat}{w:World}(hs:ShS w f u R)(hg:Hdl w)(hs2:Sl w 3 v2 n2 (opv l))(hpl:Qd l≤100000)(hn:n2≤100000) :
  Calls prog 210 #[.pointer (some ⟨f,0,none⟩),v2] w (Qvm f u R l w):=by
 have hu:=hs.u1;have hp:∀ p∈l,p.put.length≤35184372087808:=fun p hp=>by have:=Y2 hp;omega
 by_cases hc:chk l ((cnt R).of u)=0
 ·have hpost:Calls prog 210 #[.pointer (some ⟨f,0,none⟩),v2] w (Js f u R l w):=by
   have h3:u=1∨u=2∨u=3:=by omega
   rcases h3 with rfl | rfl | rfl
   ·exact Qpk hs hg hs2 hpl hn hc
   ·exact Qkz hs hg hs2 hpl hn hc
   ·exact Qwc hs hg hs2 hpl hn hc
  refine hpost.mono ?_;rintro e w' ⟨ho,-,h⟩;refine⟨ho,?_⟩;rcases h hc with ⟨h10,rfl,hs'⟩ | ⟨h0,X,hX,hh⟩
  ·exact .inl ⟨10,by decide,rfl,hs',fun o k' ht=>by rw[(ht.2.2 ⟨hu,by decide⟩ hc).1,h10]⟩
  ·have T:TnR R l u 1 (tnF R u 1 Cn.zero 0 l).1 0:=⟨fun h=>absurd ⟨hu,by decide⟩ h,fun _ h=>absurd hc h,fun _ _=>⟨h0.symm,(if_pos rfl).symm⟩⟩;obtain⟨-,b,c,-⟩:=Qct hu T;exact .inr ⟨_,X,hX,b,c,fun o k' ht=>ht.unique T,T,hh⟩
 ·refine (Qp8 hs hg hs2 hp hc).mono ?_;rintro e w' ⟨ho,h,-⟩;obtain⟨rfl,hs'⟩:=h hc
  exact⟨ho,.inl ⟨_,hc,rfl,hs',fun o k' ht=>(ht.2.1 ⟨hu,by decide⟩ hc).2⟩⟩
end Go.Proofs.YtckkgdmkfbkaoaaGreatDoor
