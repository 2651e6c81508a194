/- Texts of the proof. -/
import Derived.Test.YtckkgdmkfbkaoaaGreatDoorM34
namespace Go.Proofs.YtckkgdmkfbkaoaaGreatDoor
open Go.Proofs.Tryz
set_option maxRecDepth 100000
set_option maxHeartbeats 32000000
set_option linter.all false
open Go.RowKit Go.Sort
theorem Qwh {R:List Int}{l:List PT}{v:Value}{n p:Nat}{t:RT}{u:Int}{w:World}(hat:AtR w p t)(hgd:Good t)(hR:R=t.runes)(hgl:Hdl w)(hsl:Sl w 3 v n (opv l))(hp:∀ p∈l,p.put.length≤35184372087808)(hn:n≤100000) :
  Calls prog 206 #[.pointer (some ⟨p,0,none⟩),.int .i64 u,v] w (Qd3 R l u 1 w):=by
 have HT:=Hm (Qjn (u:=u) hat hgd hR hgl hsl hp (by decide:(1:Int)≤1∧(1:Int)≤3) hn);obtain⟨A,cc,rfl,-⟩:=hsl;clear hat hgd hR hgl hp;go_enter func206,ntmps206
 go_wp2_with fail;refine HT.o.mono ?_;rintro e w1 ⟨⟨hb,v1,o,k,rfl,hs,hr⟩,hf⟩;have HF:=Hm (hf _ _ rfl);have H:=Hm (Wao hb (Wao hs hr));clear hb hs hr hf;go_wp2_with fail;go_ret2
 exact⟨⟨H.o.1,v1,o,k,rfl,H.o.2.1,H.o.2.2⟩,frE HF.o⟩
theorem Qwi {R:List Int}{l:List PT}{v:Value}{n p:Nat}{t:RT}{u:Int}{w:World}(hat:AtR w p t)(hgd:Good t)(hR:R=t.runes)(hgl:Hdl w)(hsl:Sl w 3 v n (opv l))(hp:∀ p∈l,p.put.length≤35184372087808)(hn:n≤100000) :
  Calls prog 315 #[.pointer (some ⟨p,0,none⟩),.int .i64 u,v] w (Qd3 R l 1 u w):=by
 by_cases hu:1≤u∧u≤3
 ·have HT:=Hm (Qjn (u:=1) hat hgd hR hgl hsl hp hu hn);have hu1:¬ u<1:=by omega
  have hu2:¬ 3<u:=by omega
  obtain⟨A,cc,rfl,-⟩:=hsl;clear hat hgd hR hgl hp hu;go_enter func315,ntmps315
  go_wp2_with fail;refine HT.o.mono ?_;rintro e w1 ⟨⟨hb,v1,o,k,rfl,hs,hr⟩,hf⟩;have HF:=Hm (hf _ _ rfl);have H:=Hm (Wao hb (Wao hs hr));clear hb hs hr hf;go_wp2_with fail;go_ret2
  exact⟨⟨H.o.1,v1,o,k,rfl,H.o.2.1,H.o.2.2⟩,frE HF.o⟩
 ·have HU:=Hm hu;clear hat hgd hR hgl hp hsl
  by_cases hu1:u<1
  ·clear hu;go_enter func315,ntmps315
   go_wp2_with fail;go_ret2
   exact⟨⟨Wac _ _,_,[],1,rfl,Sl.nil _ _,fun _=>⟨rfl,rfl⟩,fun h=>absurd h.2 HU.o,fun h=>absurd h.2 HU.o⟩,frE (Frs.nil _)⟩
  ·have hu2:3<u:=by omega
   clear hu;go_enter func315,ntmps315
   go_wp2_with fail;go_ret2
   exact⟨⟨Wac _ _,_,[],1,rfl,Sl.nil _ _,fun _=>⟨rfl,rfl⟩,fun h=>absurd h.2 HU.o,fun h=>absurd h.2 HU.o⟩,frE (Frs.nil _)⟩
theorem Qjr {l:List PT}{p:PT}(h:p∈l):p.put.length≤Qd l:=by
 induction l with
 | nil=>cases h
 | cons q l ih =>
  rw[Qd];rcases Wbk.1 h with rfl | h
  ·omega
  ·have:=ih h;omega
section
attribute [local go_sem] Cn.v_eq Qpn
end
end Go.Proofs.YtckkgdmkfbkaoaaGreatDoor
