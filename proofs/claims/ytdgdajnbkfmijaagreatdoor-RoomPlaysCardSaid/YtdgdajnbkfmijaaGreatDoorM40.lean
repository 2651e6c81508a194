/- Texts of the proof. -/
import Derived.Test.YtdgdajnbkfmijaaGreatDoorM36
namespace Go.Proofs.YtdgdajnbkfmijaaGreatDoor
open Go.Proofs.Tryz
set_option maxRecDepth 100000
set_option maxHeartbeats 32000000
open Go.RowKit Go.Sort
theorem Qnn {R:List Int}{l:List PT}{v:Value}{n p:Nat}{t:RT}{u:Int}{w:World}(hat:AtR w p t)(hgd:Good t)(hR:R=t.runes)(hgl:Hdl w)(hsl:Sl w 3 v n (opv l))(hp:∀ p∈l,p.put.length≤35184372087808)(hn:n≤100000) :
  Calls prog 72 #[.pointer (some ⟨p,0,none⟩),.int .i64 u,v] w (Qcq R l u 1 w):=by
 have HT:=Hm (Qg0 (u:=u) hat hgd hR hgl hsl hp (by decide:(1:Int)≤1∧(1:Int)≤3) hn);obtain⟨A,cc,rfl,-⟩:=hsl;clear hat hgd hR hgl hp;go_enter func72,ntmps72
 go_wp2_with fail;refine HT.o.mono ?_;rintro e w1 ⟨⟨hb,v1,o,k,rfl,hs,hr⟩,hf⟩;have HF:=Hm (hf _ _ rfl);have H:=Hm (Wao hb (Wao hs hr));clear hb hs hr hf;go_wp2_with fail;go_ret2
 exact⟨⟨H.o.1,v1,o,k,rfl,H.o.2.1,H.o.2.2⟩,frE HF.o⟩
theorem Qno {R:List Int}{l:List PT}{v:Value}{n p:Nat}{t:RT}{u:Int}{w:World}(hat:AtR w p t)(hgd:Good t)(hR:R=t.runes)(hgl:Hdl w)(hsl:Sl w 3 v n (opv l))(hp:∀ p∈l,p.put.length≤35184372087808)(hn:n≤100000) :
  Calls prog 169 #[.pointer (some ⟨p,0,none⟩),.int .i64 u,v] w (Qcq R l 1 u w):=by
 by_cases hu:1≤u∧u≤3
 ·have HT:=Hm (Qg0 (u:=1) hat hgd hR hgl hsl hp hu hn);have hu1:¬ u<1:=by omega
  have hu2:¬ 3<u:=by omega
  obtain⟨A,cc,rfl,-⟩:=hsl;clear hat hgd hR hgl hp hu;go_enter func169,ntmps169
  go_wp2_with fail;refine HT.o.mono ?_;rintro e w1 ⟨⟨hb,v1,o,k,rfl,hs,hr⟩,hf⟩;have HF:=Hm (hf _ _ rfl);have H:=Hm (Wao hb (Wao hs hr));clear hb hs hr hf;go_wp2_with fail;go_ret2
  exact⟨⟨H.o.1,v1,o,k,rfl,H.o.2.1,H.o.2.2⟩,frE HF.o⟩
 ·have HU:=Hm hu;clear hat hgd hR hgl hp hsl
  by_cases hu1:u<1
  ·clear hu;go_enter func169,ntmps169
   go_wp2_with fail;go_ret2
   exact⟨⟨Wac _ _,_,[],1,rfl,Sl.nil _ _,fun _=>⟨rfl,rfl⟩,fun h=>absurd h.2 HU.o,fun h=>absurd h.2 HU.o⟩,frE (Frs.nil _)⟩
  ·have hu2:3<u:=by omega
   clear hu;go_enter func169,ntmps169
   go_wp2_with fail;go_ret2
   exact⟨⟨Wac _ _,_,[],1,rfl,Sl.nil _ _,fun _=>⟨rfl,rfl⟩,fun h=>absurd h.2 HU.o,fun h=>absurd h.2 HU.o⟩,frE (Frs.nil _)⟩
theorem Qgn {l:List PT}{p:PT}(h:p∈l):p.put.length≤Qc l:=by
 induction l with
 | nil=>cases h
 | cons q l ih =>
  rw[Qc];rcases Wbk.1 h with rfl | h
  ·omega
  ·have:=ih h;omega
section
attribute [local go_sem] Cn.v_eq Qs2
end
end Go.Proofs.YtdgdajnbkfmijaaGreatDoor
