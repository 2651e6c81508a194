/- Texts of the proof. -/
import Derived.Test.YtckkgdmkfbkaoaaGreatDoorM25
namespace Go.Proofs.YtckkgdmkfbkaoaaGreatDoor
open Go.Proofs.Tryz
set_option maxRecDepth 100000
set_option maxHeartbeats 32000000
set_option linter.all false
open Go.RowKit
attribute [local go_sem] Qz
attribute [local go_sem ↓] Go.wp_at_zero Go.wp_at_succ
def Q4 (e:Int):Value:=if e=0 then .nilIface else .iface 31 (.int .i64 e)
theorem Qfa (w:World)(e:Int):ErrV w (Q4 e) e (-1):=by
 unfold Q4
 split
 ·rename_i h;subst h;exact .nil
 ·exact .no e
def Qmp (l:List PT)(n:Int)(w:World)(e:Ending)(w':World):Prop:=(∃ ev,e=.returned ev∧ErrV w' ev (chk l n) (-1)∧ev=Q4 (chk l n))∧Below w.heap.size w w'
theorem Zv {l:List PT}{v:Value}{n:Nat}{m:Int}{w:World}(hg:Hdl w)(hsl:Sl w 3 v n (opv l))(hp:∀ p∈l,p.put.length≤35184372087808)(hm:-9223372036854775808≤m∧m≤9223372036854775807) :
  Calls prog 262 #[v,.int .i64 m] w (Qmp l m w):=by
 have hln:l.length=n:=by have:=hsl.len;rw[Zw] at this;omega
 have hle:=hsl.le;unfold maxLen at hle;have HSL:=Hm hsl;have HP:=Hm hp;have HM:=Hm hm;obtain⟨A,c,rfl,-⟩:=hsl;clear hp hm;go_enter func262,ntmps262
 go_wp2_with fail
 go_loopw [16] (fun i wr=>∃ k:Nat,k≤n∧i=.int .i64 k∧(∀ p∈l.take k,p.Good)∧Below w.heap.size w wr) (fun i _=>n-(intOf i).toNat)
 case atStart=>exact⟨0,by omega,rfl,by simp,(by repeat (first | exact Wac _ _ | exact Qe (by assumption) | apply Qe | apply Qo | apply Qb | assumption))⟩
 case round =>
  obtain⟨k,hk,rfl,hall,hbel⟩:=hrel;have HB:=Hm hbel;have HALL:=Hm hall;clear hall
  by_cases hkn:k<n
  ·obtain⟨b,o,c',hv,hlt,c0,c1,c2⟩:=(HSL.o.below hbel).part hkn (by omega)
   cases hv
   have hpl:=HP.o _ (Wau (h:=(by omega:k<l.length)));have hkl:k<l.length:=by omega
   have HA:Hd (¬ l[k].arg→e1 l=1):=⟨fun h=>Qsx hkl HALL.o h⟩;have HF:Hd (l[k].arg→¬ l[k].form→e1 l=3):=⟨fun h h'=>Qsy hkl HALL.o h h'⟩
   have HNX:Hd (l[k].Good→∀ p∈l.take (k+1),p.Good):=⟨fun h p hp=>by
    rw[Wag (by omega),List.mem_append] at hp;rcases hp with hp | hp
    ·exact HALL.o p hp
    ·obtain rfl:=Wbd.1 hp;exact h⟩
   clear hbel HALL HP;generalize l[k]=q at *;obtain⟨x,y,z⟩:=q;dsimp only at c0 c1 c2 hpl
   by_cases h1:x=0
   ·subst h1
    by_cases h2:y=0
    ·subst h2
     by_cases h3:z=[]
     ·subst h3;have hbad:¬ PT.arg ⟨0,0,[]⟩:=by simp only[PT.arg,PT.some];simp[]
      have HC:Hd (chk l m=1):=⟨by unfold chk;rw[HA.o hbad];simp⟩;clear hbad;go_wp2_with fail;refine wp_loop_rounds 4 ?_
      repeat (rw[rounds_succ];go_wp2_with fail)
      go_ret
      exact⟨⟨_,rfl,by rw[HC.o];exact .no 1,by rw[HC.o];rfl⟩,by repeat (first | exact HB.o | apply Qe | apply Qo | apply Qb)⟩
     ·have h3':(z == [])=false:=by rw[Waf];exact h3
      have harg:PT.arg ⟨0,0,z⟩:=by simp only[PT.arg,PT.some];simp[h3]
      obtain⟨rs,rest,hs⟩:=U.sp_exists z;have HS:=Hm hs;have HAR:=Hm harg;clear harg hs;go_wp2_with fail;refine wp_loop_rounds 4 ?_
      repeat (rw[rounds_succ];go_wp2_with fail)
      refine (Xv (s:=z) HS.o _ hpl).mono ?_;rintro e w1 ⟨hb1,hok,hno⟩;have HB1:Hd (Below w.heap.size w w1):=⟨Qa (by repeat (first | exact HB.o | apply Qe | apply Qo | apply Qb)) hb1⟩;clear hb1
      by_cases hr:rest=[]
      ·obtain rfl:=hok hr;have HG:=Hm (HNX.o ⟨HAR.o,rs,by have:=HS.o;rwa [hr] at this⟩);clear hok hno;go_wp2_with fail
       exact⟨⟨k+1,by omega,by go_num,HG.o,by repeat (first | exact HB1.o | apply Qe | apply Qo | apply Qb)⟩,by simp only[intOf];omega⟩
      ·obtain⟨g,rfl,hat⟩:=hno hr;have HC:Hd (chk l m=3):=⟨by unfold chk;rw[HF.o HAR.o (fun⟨rs',h'⟩=>hr (HS.o.unique h').2)];simp⟩;clear hok hno;have HAT:=Hm hat
       clear hat
       go_wp2_with fail;refine (X5 (ErrV.below (.at_ g 3 _ HAT.o) (Qb (Wac _ _) _)) (hg.below (Qb HB1.o _))).mono ?_;rintro e w2 ⟨rfl,hb2⟩;have HB2:=Hm (Qa (Qb HB1.o _) hb2);clear hb2;go_wp2_with fail;go_ret
       exact⟨⟨_,rfl,by rw[HC.o];exact .no 3,by rw[HC.o];rfl⟩,by repeat (first | exact HB2.o | apply Qe | apply Qo | apply Qb)⟩
    ·by_cases h3:z=[]
     ·subst h3;have h2':((y:Int) == 0)=false:=by rw[Waf];exact h2
      by_cases h4:0≤y
      ·have harg:PT.arg ⟨0,y,[]⟩:=by simp only[PT.arg,PT.some];simp[h2];omega
       obtain⟨rs,rest,hs⟩:=U.sp_exists [];have HS:=Hm hs;have HAR:=Hm harg;clear harg hs;go_wp2_with fail;refine wp_loop_rounds 4 ?_
       repeat (rw[rounds_succ];go_wp2_with fail)
       refine (Xv (s:=[]) HS.o _ hpl).mono ?_;rintro e w1 ⟨hb1,hok,hno⟩;have HB1:Hd (Below w.heap.size w w1):=⟨Qa (by repeat (first | exact HB.o | apply Qe | apply Qo | apply Qb)) hb1⟩;clear hb1
       by_cases hr:rest=[]
       ·obtain rfl:=hok hr;have HG:=Hm (HNX.o ⟨HAR.o,rs,by have:=HS.o;rwa [hr] at this⟩);clear hok hno;go_wp2_with fail
        exact⟨⟨k+1,by omega,by go_num,HG.o,by repeat (first | exact HB1.o | apply Qe | apply Qo | apply Qb)⟩,by simp only[intOf];omega⟩
       ·obtain⟨g,rfl,hat⟩:=hno hr;have HC:Hd (chk l m=3):=⟨by unfold chk;rw[HF.o HAR.o (fun⟨rs',h'⟩=>hr (HS.o.unique h').2)];simp⟩;clear hok hno;have HAT:=Hm hat
        clear hat
        go_wp2_with fail;refine (X5 (ErrV.below (.at_ g 3 _ HAT.o) (Qb (Wac _ _) _)) (hg.below (Qb HB1.o _))).mono ?_;rintro e w2 ⟨rfl,hb2⟩;have HB2:=Hm (Qa (Qb HB1.o _) hb2);clear hb2;go_wp2_with fail;go_ret
        exact⟨⟨_,rfl,by rw[HC.o];exact .no 3,by rw[HC.o];rfl⟩,by repeat (first | exact HB2.o | apply Qe | apply Qo | apply Qb)⟩
      ·have hbad:¬ PT.arg ⟨0,y,[]⟩:=by simp only[PT.arg,PT.some];simp[h2];omega
       have HC:Hd (chk l m=1):=⟨by unfold chk;rw[HA.o hbad];simp⟩;clear hbad;go_wp2_with fail;refine wp_loop_rounds 4 ?_
       repeat (rw[rounds_succ];go_wp2_with fail)
       go_ret
       exact⟨⟨_,rfl,by rw[HC.o];exact .no 1,by rw[HC.o];rfl⟩,by repeat (first | exact HB.o | apply Qe | apply Qo | apply Qb)⟩
     ·have h2':((y:Int) == 0)=false:=by rw[Waf];exact h2
      have h3':(z == [])=false:=by rw[Waf];exact h3
      have hbad:¬ PT.arg ⟨0,y,z⟩:=by simp only[PT.arg,PT.some];simp[h2,h3]
      have HC:Hd (chk l m=1):=⟨by unfold chk;rw[HA.o hbad];simp⟩;clear hbad;go_wp2_with fail;refine wp_loop_rounds 4 ?_
      repeat (rw[rounds_succ];go_wp2_with fail)
      go_ret
      exact⟨⟨_,rfl,by rw[HC.o];exact .no 1,by rw[HC.o];rfl⟩,by repeat (first | exact HB.o | apply Qe | apply Qo | apply Qb)⟩
   ·by_cases h2:y=0
    ·subst h2
     by_cases h3:z=[]
     ·subst h3;have h1':((x:Int) == 0)=false:=by rw[Waf];exact h1
      by_cases h4:0≤x
      ·have harg:PT.arg ⟨x,0,[]⟩:=by simp only[PT.arg,PT.some];simp[h1];omega
       obtain⟨rs,rest,hs⟩:=U.sp_exists [];have HS:=Hm hs;have HAR:=Hm harg;clear harg hs;go_wp2_with fail;refine wp_loop_rounds 4 ?_
       repeat (rw[rounds_succ];go_wp2_with fail)
       refine (Xv (s:=[]) HS.o _ hpl).mono ?_;rintro e w1 ⟨hb1,hok,hno⟩;have HB1:Hd (Below w.heap.size w w1):=⟨Qa (by repeat (first | exact HB.o | apply Qe | apply Qo | apply Qb)) hb1⟩;clear hb1
       by_cases hr:rest=[]
       ·obtain rfl:=hok hr;have HG:=Hm (HNX.o ⟨HAR.o,rs,by have:=HS.o;rwa [hr] at this⟩);clear hok hno;go_wp2_with fail
        exact⟨⟨k+1,by omega,by go_num,HG.o,by repeat (first | exact HB1.o | apply Qe | apply Qo | apply Qb)⟩,by simp only[intOf];omega⟩
       ·obtain⟨g,rfl,hat⟩:=hno hr;have HC:Hd (chk l m=3):=⟨by unfold chk;rw[HF.o HAR.o (fun⟨rs',h'⟩=>hr (HS.o.unique h').2)];simp⟩;clear hok hno;have HAT:=Hm hat
        clear hat
        go_wp2_with fail;refine (X5 (ErrV.below (.at_ g 3 _ HAT.o) (Qb (Wac _ _) _)) (hg.below (Qb HB1.o _))).mono ?_;rintro e w2 ⟨rfl,hb2⟩;have HB2:=Hm (Qa (Qb HB1.o _) hb2);clear hb2;go_wp2_with fail;go_ret
        exact⟨⟨_,rfl,by rw[HC.o];exact .no 3,by rw[HC.o];rfl⟩,by repeat (first | exact HB2.o | apply Qe | apply Qo | apply Qb)⟩
      ·have hbad:¬ PT.arg ⟨x,0,[]⟩:=by simp only[PT.arg,PT.some];simp[h1];omega
       have HC:Hd (chk l m=1):=⟨by unfold chk;rw[HA.o hbad];simp⟩;clear hbad;go_wp2_with fail;refine wp_loop_rounds 4 ?_
       repeat (rw[rounds_succ];go_wp2_with fail)
       go_ret
       exact⟨⟨_,rfl,by rw[HC.o];exact .no 1,by rw[HC.o];rfl⟩,by repeat (first | exact HB.o | apply Qe | apply Qo | apply Qb)⟩
     ·have h1':((x:Int) == 0)=false:=by rw[Waf];exact h1
      have h3':(z == [])=false:=by rw[Waf];exact h3
      have hbad:¬ PT.arg ⟨x,0,z⟩:=by simp only[PT.arg,PT.some];simp[h1,h3]
      have HC:Hd (chk l m=1):=⟨by unfold chk;rw[HA.o hbad];simp⟩;clear hbad;go_wp2_with fail;refine wp_loop_rounds 4 ?_
      repeat (rw[rounds_succ];go_wp2_with fail)
      go_ret
      exact⟨⟨_,rfl,by rw[HC.o];exact .no 1,by rw[HC.o];rfl⟩,by repeat (first | exact HB.o | apply Qe | apply Qo | apply Qb)⟩
    ·by_cases h3:z=[]
     ·subst h3;have h1':((x:Int) == 0)=false:=by rw[Waf];exact h1
      have h2':((y:Int) == 0)=false:=by rw[Waf];exact h2
      have hbad:¬ PT.arg ⟨x,y,[]⟩:=by simp only[PT.arg,PT.some];simp[h1,h2]
      have HC:Hd (chk l m=1):=⟨by unfold chk;rw[HA.o hbad];simp⟩;clear hbad;go_wp2_with fail;refine wp_loop_rounds 4 ?_
      repeat (rw[rounds_succ];go_wp2_with fail)
      go_ret
      exact⟨⟨_,rfl,by rw[HC.o];exact .no 1,by rw[HC.o];rfl⟩,by repeat (first | exact HB.o | apply Qe | apply Qo | apply Qb)⟩
     ·have h1':((x:Int) == 0)=false:=by rw[Waf];exact h1
      have h2':((y:Int) == 0)=false:=by rw[Waf];exact h2
      have h3':(z == [])=false:=by rw[Waf];exact h3
      have hbad:¬ PT.arg ⟨x,y,z⟩:=by simp only[PT.arg,PT.some];simp[h1,h2,h3]
      have HC:Hd (chk l m=1):=⟨by unfold chk;rw[HA.o hbad];simp⟩;clear hbad;go_wp2_with fail;refine wp_loop_rounds 4 ?_
      repeat (rw[rounds_succ];go_wp2_with fail)
      go_ret
      exact⟨⟨_,rfl,by rw[HC.o];exact .no 1,by rw[HC.o];rfl⟩,by repeat (first | exact HB.o | apply Qe | apply Qo | apply Qb)⟩
  ·obtain rfl:k=n:=by omega
   have hall:∀ p∈l,p.Good:=fun p hp=>HALL.o p (by rw[← hln,Wbe];exact hp)
   have HC:Hd (chk l m=e2 m l):=⟨by unfold chk;rw[Qdi hall];simp⟩;have HG:=Hm hall;clear hall HALL hbel HP;go_wp2_with fail
   go_loopw [1,66] (fun mm i wq=>∃ (j:Nat) (m':Int),j≤k∧mm=.int .i64 m'∧i=.int .i64 j∧(-9223372036854775808≤m'∧m'≤9223372036854775807)∧e2 m l=e2 m' (l.drop j)∧Below w.heap.size w wq) (fun _ i _=>k-(intOf i).toNat)
   case atStart=>exact⟨0,m,by omega,rfl,rfl,HM.o,rfl,HB.o⟩
   case round =>
    obtain⟨j,m',hj,rfl,rfl,hm',he,hbel2⟩:=hrel;have HB2:=Hm hbel2;have HE:=Hm he;clear he HB;obtain⟨hm1,hm2⟩:=hm'
    by_cases hjk:j<k
    ·obtain⟨b,o,c',hv,hlt,c0,c1,c2⟩:=(HSL.o.below hbel2).part hjk (by omega)
     cases hv
     have hjl:j<l.length:=by omega
     obtain⟨hs1,hk0,hd0⟩:=(HG.o _ (Wau hjl)).1;have HD:=Hm (Wbl hjl);generalize l[j]=q at *;obtain⟨x,y,z⟩:=q;dsimp only at c0 c1 c2 hk0 hd0
     have hxy:x=0∨y=0:=by
      simp only[PT.some] at hs1
      by_cases h1:x=0
      ·exact .inl h1
      ·by_cases h2:y=0
       ·exact .inr h2
       ·rw[if_neg h1,if_neg h2] at hs1;omega
     clear hs1 hbel2
     by_cases hx:m'<x
     ·have HR:Hd (chk l m=2):=⟨by rw[HC.o,HE.o,HD.o,e2,if_pos (.inl hx)]⟩;clear hxy;go_wp2_with fail;go_ret
      exact⟨⟨_,rfl,by rw[HR.o];exact .no 2,by rw[HR.o];rfl⟩,by repeat (first | exact HB2.o | apply Qe | apply Qo | apply Qb)⟩
     ·by_cases hy:m'<y
      ·have HR:Hd (chk l m=2):=⟨by rw[HC.o,HE.o,HD.o,e2,if_pos (.inr hy)]⟩;clear hxy;go_wp2_with fail;go_ret
       exact⟨⟨_,rfl,by rw[HR.o];exact .no 2,by rw[HR.o];rfl⟩,by repeat (first | exact HB2.o | apply Qe | apply Qo | apply Qb)⟩
      ·have HR:Hd (e2 m l=e2 (m'-x-y) (l.drop (j+1))):=⟨by rw[HE.o,HD.o,e2,if_neg (fun h=>h.elim hx hy)]⟩;have hs0:0≤x+y:=by omega
       have hs1:x+y≤9223372036854775807:=by omega
       have hlo:-9223372036854775808≤m'-x-y:=by omega
       have hhi:m'-x-y≤9223372036854775807:=by omega
       clear hxy;go_wp2_with fail
       exact⟨⟨j+1,m'-x-y,by omega,by go_num,by go_num,⟨hlo,hhi⟩,HR.o,by repeat (first | exact HB2.o | apply Qe | apply Qo | apply Qb)⟩,by simp only[intOf];omega⟩
    ·obtain rfl:j=k:=by omega
     have hd:l.drop j=[]:=by rw[← hln];exact List.drop_length
     by_cases h0:m'=0
     ·have HR:Hd (chk l m=0):=⟨by rw[HC.o,HE.o,hd,e2,if_pos h0]⟩;subst h0;go_wp2_with fail;go_ret
      exact⟨⟨_,rfl,by rw[HR.o];exact .nil,by rw[HR.o];rfl⟩,by repeat (first | exact HB2.o | apply Qe | apply Qo | apply Qb)⟩
     ·have HR:Hd (chk l m=2):=⟨by rw[HC.o,HE.o,hd,e2,if_neg h0]⟩;have h0':(m' == 0)=false:=by rw[Waf];exact h0
      go_wp2_with fail;go_ret
      exact⟨⟨_,rfl,by rw[HR.o];exact .no 2,by rw[HR.o];rfl⟩,by repeat (first | exact HB2.o | apply Qe | apply Qo | apply Qb)⟩
end Go.Proofs.YtckkgdmkfbkaoaaGreatDoor
