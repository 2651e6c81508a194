/- Texts of the proof. -/
import Derived.Test.YtdgdajnbkfmijaaGreatDoorM18
namespace Go.Proofs.YtdgdajnbkfmijaaGreatDoor
open Go.Proofs.Tryz
set_option maxRecDepth 100000
set_option maxHeartbeats 32000000
section
open Go.RowKit
def PT.some (p:PT):Nat:=(if p.keep=0 then 0 else 1)+(if p.drop=0 then 0 else 1)+(if p.put=[] then 0 else 1)
def PT.arg (p:PT):Prop:=p.some=1∧0≤p.keep∧0≤p.drop
instance (p:PT):Decidable p.arg:=by unfold PT.arg;infer_instance
def PT.form (p:PT):Prop:=∃ rs,U.Sp p.put rs []
open Classical in
noncomputable def e1:List PT→Int
 | []=>0
 | p :: l=>if ¬ p.arg then 1 else if ¬ p.form then 3 else e1 l
def e2 (n:Int):List PT→Int
 | []=>if n=0 then 0 else 2
 | p :: l=>if n<p.keep∨n<p.drop then 2 else e2 (n-p.keep-p.drop) l
noncomputable def chk (l:List PT)(n:Int):Int:=if e1 l=0 then e2 n l else e1 l
def PT.Good (p:PT):Prop:=p.arg∧p.form
theorem Qgi {l:List PT}{k:Nat}(hk:k<l.length)(h:∀ p∈l.take k,p.Good):e1 l=e1 (l.drop k):=by
 induction k generalizing l with
 | zero=>rfl
 | succ k ih =>
  cases l with
  | nil=>simp at hk
  | cons p l =>
   have hp:p.Good:=h p (by simp);have h2:=ih (l:=l) (by simpa using hk) (fun q hq=>h q (by simp[hq]));simp only[e1,List.drop_succ_cons];rw[if_neg (fun h=>h hp.1),if_neg (fun h=>h hp.2),h2]
theorem Qgj {l:List PT}{k:Nat}(hk:k<l.length)(h:∀ p∈l.take k,p.Good)(ha:¬ l[k].arg):e1 l=1:=by
 rw[Qgi hk h,Wbl hk,e1,if_pos ha]
theorem Qgk {l:List PT}{k:Nat}(hk:k<l.length)(h:∀ p∈l.take k,p.Good)(ha:l[k].arg)(hf:¬ l[k].form):e1 l=3:=by
 rw[Qgi hk h,Wbl hk,e1,if_neg (fun h=>h ha),if_pos hf]
theorem Qag {l:List PT}(h:∀ p∈l,p.Good):e1 l=0:=by
 induction l with
 | nil=>rfl
 | cons p l ih =>
  have hp:p.Good:=h p (by simp);rw[e1,if_neg (fun h=>h hp.1),if_neg (fun h=>h hp.2),ih (fun q hq=>h q (by simp[hq]))]
def Qnl (l:List PT)(n:Int)(w:World)(e:Ending)(w':World):Prop:=e=.returned (.int .i64 (chk l n))∧Below w.heap.size w w'
section
attribute [local go_sem] Qr
theorem XJ {l:List PT}{v:Value}{n:Nat}{m:Int}{w:World}(hsl:Sl w 3 v n (opv l))(hp:∀ p∈l,p.put.length≤35184372087808)(hm:-9223372036854775808≤m∧m≤9223372036854775807) :
  Calls prog 96 #[v,.int .i64 m] w (Qnl l m w):=by
 have hln:l.length=n:=by have:=hsl.len;rw[QH] at this;omega
 have hle:=hsl.le;unfold maxLen at hle;have HSL:=Hm hsl;have HP:=Hm hp;have HM:=Hm hm;obtain⟨A,c,rfl,-⟩:=hsl;clear hp hm;go_enter func96,ntmps96
 go_wp2_with fail
 go_loopw [14] (fun i wr=>∃ k:Nat,k≤n∧i=.int .i64 k∧(∀ p∈l.take k,p.Good)∧Below w.heap.size w wr) (fun i _=>n-(intOf i).toNat)
 case atStart=>exact⟨0,by omega,rfl,by simp,(by repeat (first | exact Wac _ _ | exact Qe (by assumption) | apply Qe | apply Qh | apply Qa | assumption))⟩
 case round =>
  obtain⟨k,hk,rfl,hall,hbel⟩:=hrel;have HB:=Hm hbel;have HALL:=Hm hall;clear hall
  by_cases hkn:k<n
  ·obtain⟨b,o,c',hv,hlt,c0,c1,c2⟩:=(HSL.o.below hbel).part hkn (by omega)
   cases hv
   have hpl:=HP.o _ (Wau (h:=(by omega:k<l.length)));have hkl:k<l.length:=by omega
   have HA:Hd (¬ l[k].arg→e1 l=1):=⟨fun h=>Qgj hkl HALL.o h⟩;have HF:Hd (l[k].arg→¬ l[k].form→e1 l=3):=⟨fun h h'=>Qgk hkl HALL.o h h'⟩
   have HNX:Hd (l[k].Good→∀ p∈l.take (k+1),p.Good):=⟨fun h p hp=>by
    rw[Wag (by omega),List.mem_append] at hp;rcases hp with hp | hp
    ·exact HALL.o p hp
    ·obtain rfl:=Wbd.1 hp;exact h⟩
   clear hbel HALL HP;generalize l[k]=q at *;obtain⟨x,y,z⟩:=q;dsimp only at c0 c1 c2 hpl
   by_cases h1:x=0
   ·subst h1
    by_cases h2:y=0
    ·subst h2
     by_cases h3:z=[]
     ·subst h3;have hbad:¬ PT.arg ⟨0,0,[]⟩:=by simp only[PT.arg,PT.some];simp[]
      have HC:Hd (chk l m=1):=⟨by unfold chk;rw[HA.o hbad];simp⟩;clear hbad;go_wp2_with fail;go_ret
      exact⟨by rw[HC.o]<;>rfl,by repeat (first | exact HB.o | apply Qe | apply Qh | apply Qa)⟩
     ·have h3':(z == [])=false:=by rw[Waf];exact h3
      have harg:PT.arg ⟨0,0,z⟩:=by simp only[PT.arg,PT.some];simp[h3]
      obtain⟨rs,rest,hs⟩:=U.sp_exists z;have HS:=Hm hs;have HAR:=Hm harg;clear harg hs;go_wp2_with fail;refine (XO (s:=z) HS.o _ hpl).mono ?_;rintro e w1 ⟨hb1,hok,hno⟩;have HB1:=Hm (Qb (Qa HB.o _) hb1);clear hb1
      by_cases hr:rest=[]
      ·obtain⟨v,rfl,_⟩:=hok hr;have HG:=Hm (HNX.o ⟨HAR.o,rs,by have:=HS.o;rwa [hr] at this⟩);clear hok hno;simp only[QQ];go_wp2_with fail
       exact⟨⟨k+1,by omega,by go_num,HG.o,by repeat (first | exact HB1.o | apply Qe | apply Qh | apply Qa)⟩,by simp only[intOf];omega⟩
      ·obtain rfl:=hno hr;have HC:Hd (chk l m=3):=⟨by unfold chk;rw[HF.o HAR.o (fun⟨rs',h'⟩=>hr (HS.o.unique h').2)];simp⟩;clear hok hno;simp only[QQ];go_wp2_with fail;go_ret
       exact⟨by rw[HC.o]<;>rfl,by repeat (first | exact HB1.o | apply Qe | apply Qh | apply Qa)⟩
    ·by_cases h3:z=[]
     ·subst h3;have h2':((y:Int) == 0)=false:=by rw[Waf];exact h2
      by_cases h4:0≤y
      ·have harg:PT.arg ⟨0,y,[]⟩:=by simp only[PT.arg,PT.some];simp[h2];omega
       obtain⟨rs,rest,hs⟩:=U.sp_exists [];have HS:=Hm hs;have HAR:=Hm harg;clear harg hs;go_wp2_with fail;refine (XO (s:=[]) HS.o _ hpl).mono ?_;rintro e w1 ⟨hb1,hok,hno⟩;have HB1:=Hm (Qb (Qa HB.o _) hb1);clear hb1
       by_cases hr:rest=[]
       ·obtain⟨v,rfl,_⟩:=hok hr;have HG:=Hm (HNX.o ⟨HAR.o,rs,by have:=HS.o;rwa [hr] at this⟩);clear hok hno;simp only[QQ];go_wp2_with fail
        exact⟨⟨k+1,by omega,by go_num,HG.o,by repeat (first | exact HB1.o | apply Qe | apply Qh | apply Qa)⟩,by simp only[intOf];omega⟩
       ·obtain rfl:=hno hr;have HC:Hd (chk l m=3):=⟨by unfold chk;rw[HF.o HAR.o (fun⟨rs',h'⟩=>hr (HS.o.unique h').2)];simp⟩;clear hok hno;simp only[QQ];go_wp2_with fail;go_ret
        exact⟨by rw[HC.o]<;>rfl,by repeat (first | exact HB1.o | apply Qe | apply Qh | apply Qa)⟩
      ·have hbad:¬ PT.arg ⟨0,y,[]⟩:=by simp only[PT.arg,PT.some];simp[h2];omega
       have HC:Hd (chk l m=1):=⟨by unfold chk;rw[HA.o hbad];simp⟩;clear hbad;go_wp2_with fail;go_ret
       exact⟨by rw[HC.o]<;>rfl,by repeat (first | exact HB.o | apply Qe | apply Qh | apply Qa)⟩
     ·have h2':((y:Int) == 0)=false:=by rw[Waf];exact h2
      have h3':(z == [])=false:=by rw[Waf];exact h3
      have hbad:¬ PT.arg ⟨0,y,z⟩:=by simp only[PT.arg,PT.some];simp[h2,h3]
      have HC:Hd (chk l m=1):=⟨by unfold chk;rw[HA.o hbad];simp⟩;clear hbad;go_wp2_with fail;go_ret
      exact⟨by rw[HC.o]<;>rfl,by repeat (first | exact HB.o | apply Qe | apply Qh | apply Qa)⟩
   ·by_cases h2:y=0
    ·subst h2
     by_cases h3:z=[]
     ·subst h3;have h1':((x:Int) == 0)=false:=by rw[Waf];exact h1
      by_cases h4:0≤x
      ·have harg:PT.arg ⟨x,0,[]⟩:=by simp only[PT.arg,PT.some];simp[h1];omega
       obtain⟨rs,rest,hs⟩:=U.sp_exists [];have HS:=Hm hs;have HAR:=Hm harg;clear harg hs;go_wp2_with fail;refine (XO (s:=[]) HS.o _ hpl).mono ?_;rintro e w1 ⟨hb1,hok,hno⟩;have HB1:=Hm (Qb (Qa HB.o _) hb1);clear hb1
       by_cases hr:rest=[]
       ·obtain⟨v,rfl,_⟩:=hok hr;have HG:=Hm (HNX.o ⟨HAR.o,rs,by have:=HS.o;rwa [hr] at this⟩);clear hok hno;simp only[QQ];go_wp2_with fail
        exact⟨⟨k+1,by omega,by go_num,HG.o,by repeat (first | exact HB1.o | apply Qe | apply Qh | apply Qa)⟩,by simp only[intOf];omega⟩
       ·obtain rfl:=hno hr;have HC:Hd (chk l m=3):=⟨by unfold chk;rw[HF.o HAR.o (fun⟨rs',h'⟩=>hr (HS.o.unique h').2)];simp⟩;clear hok hno;simp only[QQ];go_wp2_with fail;go_ret
        exact⟨by rw[HC.o]<;>rfl,by repeat (first | exact HB1.o | apply Qe | apply Qh | apply Qa)⟩
      ·have hbad:¬ PT.arg ⟨x,0,[]⟩:=by simp only[PT.arg,PT.some];simp[h1];omega
       have HC:Hd (chk l m=1):=⟨by unfold chk;rw[HA.o hbad];simp⟩;clear hbad;go_wp2_with fail;go_ret
       exact⟨by rw[HC.o]<;>rfl,by repeat (first | exact HB.o | apply Qe | apply Qh | apply Qa)⟩
     ·have h1':((x:Int) == 0)=false:=by rw[Waf];exact h1
      have h3':(z == [])=false:=by rw[Waf];exact h3
      have hbad:¬ PT.arg ⟨x,0,z⟩:=by simp only[PT.arg,PT.some];simp[h1,h3]
      have HC:Hd (chk l m=1):=⟨by unfold chk;rw[HA.o hbad];simp⟩;clear hbad;go_wp2_with fail;go_ret
      exact⟨by rw[HC.o]<;>rfl,by repeat (first | exact HB.o | apply Qe | apply Qh | apply Qa)⟩
    ·by_cases h3:z=[]
     ·subst h3;have h1':((x:Int) == 0)=false:=by rw[Waf];exact h1
      have h2':((y:Int) == 0)=false:=by rw[Waf];exact h2
      have hbad:¬ PT.arg ⟨x,y,[]⟩:=by simp only[PT.arg,PT.some];simp[h1,h2]
      have HC:Hd (chk l m=1):=⟨by unfold chk;rw[HA.o hbad];simp⟩;clear hbad;go_wp2_with fail;go_ret
      exact⟨by rw[HC.o]<;>rfl,by repeat (first | exact HB.o | apply Qe | apply Qh | apply Qa)⟩
     ·have h1':((x:Int) == 0)=false:=by rw[Waf];exact h1
      have h2':((y:Int) == 0)=false:=by rw[Waf];exact h2
      have h3':(z == [])=false:=by rw[Waf];exact h3
      have hbad:¬ PT.arg ⟨x,y,z⟩:=by simp only[PT.arg,PT.some];simp[h1,h2,h3]
      have HC:Hd (chk l m=1):=⟨by unfold chk;rw[HA.o hbad];simp⟩;clear hbad;go_wp2_with fail;go_ret
      exact⟨by rw[HC.o]<;>rfl,by repeat (first | exact HB.o | apply Qe | apply Qh | apply Qa)⟩
  ·obtain rfl:k=n:=by omega
   have hall:∀ p∈l,p.Good:=fun p hp=>HALL.o p (by rw[← hln,Wbe];exact hp)
   have HC:Hd (chk l m=e2 m l):=⟨by unfold chk;rw[Qag hall];simp⟩;have HG:=Hm hall;clear hall HALL hbel HP;go_wp2_with fail
   go_loopw [1,57] (fun mm i wq=>∃ (j:Nat) (m':Int),j≤k∧mm=.int .i64 m'∧i=.int .i64 j∧(-9223372036854775808≤m'∧m'≤9223372036854775807)∧e2 m l=e2 m' (l.drop j)∧Below w.heap.size w wq) (fun _ i _=>k-(intOf i).toNat)
   case atStart=>exact⟨0,m,by omega,rfl,rfl,HM.o,rfl,HB.o⟩
   case round =>
    obtain⟨j,m',hj,rfl,rfl,hm',he,hbel2⟩:=hrel;have HB2:=Hm hbel2;have HE:=Hm he;clear he HB;obtain⟨hm1,hm2⟩:=hm'
    by_cases hjk:j<k
    ·obtain⟨b,o,c',hv,hlt,c0,c1,c2⟩:=(HSL.o.below hbel2).part hjk (by omega)
     cases hv
     have hjl:j<l.length:=by omega
     obtain⟨hs1,hk0,hd0⟩:=(HG.o _ (Wau hjl)).1;have HD:=Hm (Wbl hjl);generalize l[j]=q at *;obtain⟨x,y,z⟩:=q;dsimp only at c0 c1 c2 hk0 hd0
     have hxy:x=0∨y=0:=by
      simp only[PT.some] at hs1
      by_cases h1:x=0
      ·exact .inl h1
      ·by_cases h2:y=0
       ·exact .inr h2
       ·rw[if_neg h1,if_neg h2] at hs1;omega
     clear hs1 hbel2
     by_cases hx:m'<x
     ·have HR:Hd (chk l m=2):=⟨by rw[HC.o,HE.o,HD.o,e2,if_pos (.inl hx)]⟩;clear hxy;go_wp2_with fail;go_ret
      exact⟨by rw[HR.o]<;>rfl,by repeat (first | exact HB2.o | apply Qe | apply Qh | apply Qa)⟩
     ·by_cases hy:m'<y
      ·have HR:Hd (chk l m=2):=⟨by rw[HC.o,HE.o,HD.o,e2,if_pos (.inr hy)]⟩;clear hxy;go_wp2_with fail;go_ret
       exact⟨by rw[HR.o]<;>rfl,by repeat (first | exact HB2.o | apply Qe | apply Qh | apply Qa)⟩
      ·have HR:Hd (e2 m l=e2 (m'-x-y) (l.drop (j+1))):=⟨by rw[HE.o,HD.o,e2,if_neg (fun h=>h.elim hx hy)]⟩;have hlo:-9223372036854775808≤m'-x-y:=by omega
       have hhi:m'-x-y≤9223372036854775807:=by omega
       clear hxy;go_wp2_with fail
       exact⟨⟨j+1,m'-x-y,by omega,by go_num,by go_num,⟨hlo,hhi⟩,HR.o,by repeat (first | exact HB2.o | apply Qe | apply Qh | apply Qa)⟩,by simp only[intOf];omega⟩
    ·obtain rfl:j=k:=by omega
     have hd:l.drop j=[]:=by rw[← hln];exact List.drop_length
     by_cases h0:m'=0
     ·have HR:Hd (chk l m=0):=⟨by rw[HC.o,HE.o,hd,e2,if_pos h0]⟩;subst h0;go_wp2_with fail;go_ret
      exact⟨by rw[HR.o]<;>rfl,by repeat (first | exact HB2.o | apply Qe | apply Qh | apply Qa)⟩
     ·have HR:Hd (chk l m=2):=⟨by rw[HC.o,HE.o,hd,e2,if_neg h0]⟩;have h0':(m' == 0)=false:=by rw[Waf];exact h0
      go_wp2_with fail;go_ret
      exact⟨by rw[HR.o]<;>rfl,by repeat (first | exact HB2.o | apply Qe | apply Qh | apply Qa)⟩
end
end
section
structure NS where
 out:List PT
 put:U.Bs
 drop:Int
def Qm (put:U.Bs)(drop:Int):List PT:=(if put=[] then [] else [⟨0,0,put⟩])++(if 0<drop then [⟨0,drop,[]⟩] else [])
def NS.all (s:NS):List PT:=s.out++Qm s.put s.drop
def Yb (k:Int):List PT→List PT
 | []=>[]
 | [p]=>[⟨p.keep+k,p.drop,p.put⟩]
 | p :: q :: l=>p :: Yb k (q :: l)
def NS.kept (s:NS)(p:PT):NS :=
 if s.put≠[]∨0<s.drop∨s.out=[] then ⟨s.all++[p],[],0⟩ else ⟨Yb p.keep s.out,[],0⟩
def NS.step (s:NS)(p:PT):NS :=
 if p.put≠[] then ⟨s.out,s.put++p.put,s.drop⟩
 else if 0<p.drop then ⟨s.out,s.put,s.drop+p.drop⟩
 else if 0<p.keep then s.kept p
 else s
def NS.zero:NS:=⟨[],[],0⟩
def Qo (s:NS)(l:List PT):NS:=l.foldl NS.step s
def norm (l:List PT):List PT:=(Qo .zero l).all
def PT.byte (c:UInt8):PT:=⟨0,0,[c]⟩
def PT.d1:PT:=⟨0,1,[]⟩
def PT.k1:PT:=⟨1,0,[]⟩
def PT.exp (p:PT):List PT :=
 if p.put≠[] then p.put.map PT.byte else if 0<p.drop then List.replicate p.drop.toNat PT.d1 else List.replicate p.keep.toNat PT.k1
def Qf (l:List PT):List PT:=l.flatMap PT.exp
theorem Jg:Qf []=[]:=rfl
theorem Yc (p:PT)(l:List PT):Qf (p :: l)=p.exp++Qf l:=by simp[Qf]
theorem YT (a b:List PT):Qf (a++b)=Qf a++Qf b:=by simp[Qf]
theorem JQ (s:NS):Qo s []=s:=rfl
theorem Yt (s:NS)(p:PT)(l:List PT):Qo s (p :: l)=Qo (s.step p) l:=rfl
theorem Zt (s:NS)(a b:List PT):Qo s (a++b)=Qo (Qo s a) b:=by unfold Qo;rw[List.foldl_append]
theorem Z4 {b:U.Bs}:(⟨0,0,b⟩:PT).exp=b.map PT.byte:=by
 unfold PT.exp
 by_cases h:b=[]
 ·subst h;simp
 ·simp[h]
theorem JR (s:NS)(b:U.Bs):Qo s (b.map PT.byte)=⟨s.out,s.put++b,s.drop⟩:=by
 induction b generalizing s with
 | nil=>simp[Qo]
 | cons c b ih =>
  rw[List.map_cons,Yt,ih];simp[NS.step,PT.byte]
theorem JS (s:NS)(k:Nat):Qo s (List.replicate k PT.d1)=⟨s.out,s.put,s.drop+k⟩:=by
 induction k generalizing s with
 | zero=>simp[Qo]
 | succ k ih =>
  rw[Wat,Yt,ih];simp only[NS.step,PT.d1];simp;omega
theorem Qkk {k:Int}{l:List PT}(h:l≠[]):Yb k l≠[]:=by
 match l,h with
 | [_],_=>simp[Yb]
 | _ :: _ :: _,_=>simp[Yb]
theorem Y4 (k:Int)(l:List PT)(p:PT):Yb k (l++[p])=l++[⟨p.keep+k,p.drop,p.put⟩]:=by
 induction l with
 | nil=>rfl
 | cons q l ih =>
  cases l with
  | nil=>rfl
  | cons r l=>simp only[Wap,Yb] at ih ⊢;rw[ih]
theorem Qkl (k:Int)(l:List PT):(Yb k l).length=l.length:=by
 rcases List.eq_nil_or_concat l with rfl | ⟨a,b,rfl⟩
 ·rfl
 ·rw[List.concat_eq_append,Y4];simp
theorem Qkm (a b:Int)(l:List PT):Yb a (Yb b l)=Yb (b+a) l:=by
 rcases List.eq_nil_or_concat l with rfl | ⟨x,p,rfl⟩
 ·rfl
 ·rw[List.concat_eq_append,Y4,Y4,Y4];simp;omega
theorem Qbp (s:NS):s.step PT.k1=s.kept PT.k1:=by simp[NS.step,PT.k1]
theorem Qkn (s:NS)(k:Int):(s.kept ⟨k,0,[]⟩).kept PT.k1=s.kept ⟨k+1,0,[]⟩:=by
 unfold NS.kept
 by_cases h:s.put≠[]∨0<s.drop∨s.out=[]
 ·rw[if_pos h,if_pos h,if_neg (by simp),Y4];rfl
 ·rw[if_neg h,if_neg h];have h3:s.out≠[]:=fun e=>h (.inr (.inr e))
  rw[if_neg (by simp[Qkk h3]),Qkm];rfl
theorem Qer (s:NS)(k:Nat):Qo s (List.replicate (k+1) PT.k1)=s.kept ⟨(k:Int)+1,0,[]⟩:=by
 induction k with
 | zero=>simp only[Wat,List.replicate_zero,Yt,JQ,Qbp];rfl
 | succ k ih =>
  rw[List.replicate_succ',Zt,ih,Yt,JQ,Qbp,Qkn];simp
theorem Qko (s:NS){p:PT}(h:p.arg):s.step p=Qo s p.exp:=by
 obtain⟨k,d,b⟩:=p;obtain⟨h1,h2,h3⟩:=h;dsimp only at h2 h3;unfold PT.exp NS.step;dsimp only
 by_cases hb:b≠[]
 ·rw[if_pos hb,if_pos hb,JR]
 ·rw[if_neg hb,if_neg hb]
  by_cases hd:0<d
  ·rw[if_pos hd,if_pos hd,JS,Int.toNat_of_nonneg h3]
  ·rw[if_neg hd,if_neg hd];obtain rfl:d=0:=by omega
   obtain rfl:b=[]:=by simpa using hb
   by_cases hk:0<k
   ·rw[if_pos hk];obtain⟨m,rfl⟩:∃ m:Nat,k=(m:Int)+1:=⟨(k-1).toNat,by omega⟩;rw[show ((m:Int)+1).toNat=m+1 from by omega,Qer]
   ·rw[if_neg hk];obtain rfl:k=0:=by omega
    rfl
theorem Qes (s:NS){l:List PT}(h:∀ p∈l,p.arg):Qo s l=Qo s (Qf l):=by
 induction l generalizing s with
 | nil=>rfl
 | cons p l ih=>rw[Yt,Yc,Zt,← Qko s (h p (by simp)),ih _ (fun q hq=>h q (by simp[hq]))]
structure SS where
 l:List (U.Bs × Bool)
 e:U.Bs
def SS.zero:SS:=⟨[],[]⟩
def SS.P (s:SS):List U.Bs:=s.l.map (·.1)++[s.e]
def SS.D (s:SS):List Bool:=s.l.map (·.2)
def SS.take (x:Bool):Nat→SS→SS
 | 0,s=>s
 | k+1,s=>SS.take x k ⟨s.l++[(s.e,x)],[]⟩
def SS.step (s:SS)(p:PT):SS:=SS.take false p.keep.toNat (SS.take true p.drop.toNat ⟨s.l,s.e++p.put⟩)
def spread (l:List PT):SS:=l.foldl SS.step .zero
theorem SS.take_P (x:Bool)(k:Nat)(s:SS):(SS.take x k s).P=s.P++List.replicate k []:=by
 induction k generalizing s with
 | zero=>simp[SS.take]
 | succ k ih=>rw[SS.take,ih];simp[SS.P,Wat]
theorem SS.take_D (x:Bool)(k:Nat)(s:SS):(SS.take x k s).D=s.D++List.replicate k x:=by
 induction k generalizing s with
 | zero=>simp[SS.take]
 | succ k ih=>rw[SS.take,ih];simp[SS.D,Wat]
theorem SS.P_length (s:SS):s.P.length=s.l.length+1:=by simp[SS.P]
theorem SS.D_length (s:SS):s.D.length=s.l.length:=by simp[SS.D]
def unit (x:Bool):PT:=if x then PT.d1 else PT.k1
def SS.exp (s:SS):List PT:=s.l.flatMap (fun p=>p.1.map PT.byte++[unit p.2])++s.e.map PT.byte
theorem SS.exp_take (x:Bool)(k:Nat)(s:SS):(SS.take x k s).exp=s.exp++List.replicate k (unit x):=by
 induction k generalizing s with
 | zero=>simp[SS.take]
 | succ k ih=>rw[SS.take,ih];simp[SS.exp,Wat]
theorem SS.exp_step (s:SS){p:PT}(h:p.arg):(s.step p).exp=s.exp++p.exp:=by
 obtain⟨k,d,b⟩:=p;obtain⟨h1,h2,h3⟩:=h;dsimp only at h2 h3;unfold SS.step PT.exp;dsimp only;rw[SS.exp_take,SS.exp_take];have he:(⟨s.l,s.e++b⟩:SS).exp=s.exp++b.map PT.byte:=by simp[SS.exp]
 rw[he];unfold PT.some at h1;dsimp only at h1
 by_cases hb:b≠[]
 ·have hk:k=0:=by
   by_cases h:k=0
   ·exact h
   ·rw[if_neg h,if_neg hb] at h1;omega
  have hd:d=0:=by
   by_cases h:d=0
   ·exact h
   ·rw[if_neg h,if_neg hb] at h1;omega
  rw[if_pos hb,hk,hd];simp
 ·rw[if_neg hb];obtain rfl:b=[]:=by simpa using hb
  by_cases hd:0<d
  ·have hk:k=0:=by
    by_cases h:k=0
    ·exact h
    ·rw[if_neg h,if_neg (by omega)] at h1;omega
   rw[if_pos hd,hk];simp[unit]
  ·rw[if_neg hd];obtain rfl:d=0:=by omega
   simp[unit]
theorem Qbq {l:List PT}(h:∀ p∈l,p.arg):(spread l).exp=Qf l:=by
 suffices hs:∀ s:SS,(l.foldl SS.step s).exp=s.exp++Qf l by
  have:=hs .zero
  simpa [spread,SS.exp,SS.zero] using this
 induction l with
 | nil=>simp[Qf]
 | cons p l ih =>
  intro s;rw[List.foldl_cons,ih (fun q hq=>h q (by simp[hq])),SS.exp_step s (h p (by simp)),Yc,Wah]
structure GS where
 out:List PT
 put:U.Bs
 drop:Int
 keep:Int
def GS.zero:GS:=⟨[],[],0,0⟩
def QB (k:Int):List PT:=if 0<k then [⟨k,0,[]⟩] else []
def GS.gap (s:GS)(b:U.Bs)(x:Bool):GS:=if b≠[]∨x=true then ⟨s.out++QB s.keep,s.put++b,s.drop,0⟩ else s
def GS.byte (s:GS)(x:Bool):GS:=if x=true then ⟨s.out,s.put,s.drop+1,s.keep⟩ else ⟨s.out++Qm s.put s.drop,[],0,s.keep+1⟩
def GS.step (s:GS)(p:U.Bs × Bool):GS:=(s.gap p.1 p.2).byte p.2
def GS.fin (s:GS):List PT:=s.out++QB s.keep++Qm s.put s.drop
def gather (g:SS):List PT:=((g.l.foldl GS.step .zero).gap g.e false).fin
def GS.ns (s:GS):NS:=⟨s.out++QB s.keep,s.put,s.drop⟩
structure GS.Ok (s:GS):Prop where
 d:0≤s.drop
 k:0≤s.keep
 pend:0<s.keep→s.put=[]∧s.drop=0
 fresh:s.keep=0→s.put=[]→s.drop=0→s.out=[]
theorem GS.fin_eq (s:GS):s.fin=s.ns.all:=rfl
theorem Qkp:QB 0=[]:=rfl
theorem GS.ok_zero:GS.zero.Ok:=⟨Wba _,Wba _,fun h=>absurd h (by simp[GS.zero]),fun _ _ _=>rfl⟩
theorem GS.gap_put {s:GS}(b:U.Bs)(x:Bool):(s.gap b x).ns=Qo s.ns (b.map PT.byte):=by
 rw[JR];unfold GS.gap
 by_cases h:b≠[]∨x=true
 ·rw[if_pos h];simp[GS.ns,Qkp]
 ·rw[if_neg h]
  have hb:b=[]:=by
   by_cases e:b=[]
   ·exact e
   ·exact absurd (.inl e) h
  subst hb;simp[GS.ns]
theorem GS.step_ns {s:GS}(h:s.Ok)(b:U.Bs)(x:Bool):(s.step (b,x)).ns=Qo s.ns (b.map PT.byte++[unit x])∧(s.step (b,x)).Ok:=by
 obtain⟨h1,h2,h3,h4⟩:=h;rw[Zt,← GS.gap_put b x,Yt,JQ];unfold GS.step;dsimp only
 cases x with
 | true =>
  unfold GS.gap GS.byte;simp only[or_true,if_true,unit]
  constructor
  ·simp[GS.ns,NS.step,PT.d1]
  ·exact⟨by simp;omega,Wba _,fun h=>absurd h (by simp),fun _ _ hd=>by dsimp only at hd;omega⟩
 | false =>
  simp only[unit,if_false,Bool.false_eq_true,Qbp];unfold GS.byte;simp only[if_false,Bool.false_eq_true]
  by_cases hb:b=[]
  ·subst hb;have hg:s.gap [] false=s:=by simp[GS.gap]
   rw[hg]
   constructor
   ·unfold NS.kept GS.ns;dsimp only
    by_cases hc:s.put≠[]∨0<s.drop∨s.out++QB s.keep=[]
    ·rw[if_pos hc]
     have hk:s.keep=0:=by
      by_cases hk:0<s.keep
      ·obtain⟨e1,e2⟩:=h3 hk;rcases hc with hc | hc | hc
       ·exact absurd e1 hc
       ·omega
       ·simp[QB,hk] at hc
      ·omega
     rw[hk];simp[NS.all,QB,PT.k1]
    ·rw[if_neg hc]
     have e1:s.put=[]:=by
      by_cases e:s.put=[]
      ·exact e
      ·exact absurd (.inl e) hc
     have e2:s.drop=0:=by
      by_cases e:0<s.drop
      ·exact absurd (.inr (.inl e)) hc
      ·omega
     have hk:0<s.keep:=by
      by_cases hk:s.keep=0
      ·exact absurd (.inr (.inr (by rw[h4 hk e1 e2,hk];rfl))) hc
      ·omega
     rw[e1,e2];simp only[Qm,if_true,QB,hk,PT.k1];rw[Y4,if_pos (show 0<s.keep+1 by omega)];simp
   ·exact⟨Wba _,by dsimp only;omega,fun _=>⟨rfl,rfl⟩,fun h=>by dsimp only at h;omega⟩
  ·have hg:s.gap b false=⟨s.out++QB s.keep,s.put++b,s.drop,0⟩:=by simp[GS.gap,hb]
   rw[hg];have hpb:s.put++b≠[]:=by simp[hb]
   constructor
   ·unfold NS.kept GS.ns;dsimp only;rw[if_pos (.inl hpb)];simp[NS.all,QB,PT.k1]
   ·exact⟨Wba _,by dsimp only;omega,fun _=>⟨rfl,rfl⟩,fun h=>by dsimp only at h;omega⟩
theorem Qkq {l:List (U.Bs × Bool)}{s:GS}(h:s.Ok):(l.foldl GS.step s).ns=Qo s.ns (l.flatMap fun p=>p.1.map PT.byte++[unit p.2]):=by
 induction l generalizing s with
 | nil=>rfl
 | cons p l ih =>
  obtain⟨b,x⟩:=p;obtain⟨h1,h2⟩:=GS.step_ns h b x;rw[List.foldl_cons,ih h2,h1,← Zt,List.flatMap_cons]
theorem Qet (g:SS):gather g=(Qo .zero g.exp).all:=by
 unfold gather;rw[GS.fin_eq,GS.gap_put,Qkq GS.ok_zero,← Zt]
 rfl
theorem Qbr {l:List PT}(h:∀ p∈l,p.arg):gather (spread l)=norm l:=by
 rw[Qet,Qbq h,norm,Qes _ h]
theorem PT.arg.cases {p:PT}(h:p.arg):(∃ b,b≠[]∧p=⟨0,0,b⟩)∨(∃ n:Nat,0<n∧p=⟨0,n,[]⟩)∨(∃ n:Nat,0<n∧p=⟨n,0,[]⟩):=by
 obtain⟨k,d,b⟩:=p;obtain⟨h1,h2,h3⟩:=h;unfold PT.some at h1;dsimp only at h1 h2 h3
 by_cases hb:b=[]
 ·subst hb
  by_cases hd:d=0
  ·subst hd
   by_cases hk:k=0
   ·subst hk;simp at h1
   ·exact .inr (.inr ⟨k.toNat,by omega,by rw[Int.toNat_of_nonneg h2]⟩)
  ·by_cases hk:k=0
   ·subst hk;exact .inr (.inl ⟨d.toNat,by omega,by rw[Int.toNat_of_nonneg h3]⟩)
   ·simp[hd,hk] at h1
 ·have hk:k=0:=by
   by_cases h:k=0
   ·exact h
   ·rw[if_neg h,if_neg hb] at h1;omega
  have hd:d=0:=by
   by_cases h:d=0
   ·exact h
   ·rw[if_neg h,if_neg hb] at h1;omega
  subst hk hd;exact .inl ⟨b,hb,rfl⟩
theorem PT.arg_put {b:U.Bs}(h:b≠[]):(⟨0,0,b⟩:PT).arg:=⟨by simp[PT.some,h],Wba _,Wba _⟩
theorem PT.arg_drop {n:Int}(h:0<n):(⟨0,n,[]⟩:PT).arg:=⟨by simp[PT.some];omega,Wba _,Int.le_of_lt h⟩
theorem PT.arg_keep {n:Int}(h:0<n):(⟨n,0,[]⟩:PT).arg:=⟨by simp[PT.some];omega,Int.le_of_lt h,Wba _⟩
end
section
def Qc:List PT→Nat
 | []=>0
 | p :: l=>p.put.length+Qc l
theorem ZU (a b:List PT):Qc (a++b)=Qc a+Qc b:=by
 induction a with
 | nil=>simp[Qc]
 | cons p a ih=>rw[Wap,Qc,Qc,ih];omega
theorem YV (l:List PT)(k:Nat):Qc (l.take k)≤Qc l:=by
 conv=>rhs;rw[← Wbh k l]
 rw[ZU];omega
theorem Zk {l:List PT}(h:∀ p∈l,p.arg):0≤was l:=by
 induction l with
 | nil=>simp[was]
 | cons p l ih =>
  have h1:=h p (by simp);have h2:=ih (fun q hq=>h q (by simp[hq]));obtain⟨_,h3,h4⟩:=h1;rw[was];omega
theorem Jo {l:List PT}(h:∀ p∈l,p.arg)(k:Nat):was (l.take k)≤was l:=by
 conv=>rhs;rw[← Wbh k l]
 rw[Z5]
 have:=Zk (l:=l.drop k) (fun p hp=>h p (List.mem_of_mem_drop hp))
 omega
theorem XI (b:U.Bs)(d:Int):(Qm b d).length≤2:=by
 unfold Qm
 split<;>split<;>simp
theorem Qnj {s:NS}{p:PT}(h:p.arg)(hd:0≤s.drop):(s.step p).out.length≤s.out.length+3∧(s.step p).put.length≤s.put.length+p.put.length∧0≤(s.step p).drop∧(s.step p).drop≤s.drop+p.drop:=by
 obtain⟨h1,h2,h3⟩:=h;unfold NS.step
 split
 ·exact⟨by dsimp only;omega,by simp,hd,by dsimp only;omega⟩
 ·split
  ·exact⟨by dsimp only;omega,by dsimp only;omega,by dsimp only;omega,by dsimp only;omega⟩
  ·split
   ·unfold NS.kept
    split
    ·have:=XI s.put s.drop
     exact⟨by simp[NS.all];omega,by simp,by simp,by dsimp only;omega⟩
    ·exact⟨by dsimp only;rw[Qkl];omega,by simp,by simp,by dsimp only;omega⟩
   ·exact⟨by omega,by omega,hd,by omega⟩
theorem Qgd {l:List PT}(h:∀ p∈l,p.arg)(k:Nat):(Qo .zero (l.take k)).out.length≤3*k∧(Qo .zero (l.take k)).put.length≤Qc l∧0≤(Qo .zero (l.take k)).drop∧(Qo .zero (l.take k)).drop≤was l:=by
 suffices hs:∀ m (s:List PT),s.length=m→(∀ p∈s,p.arg)→(Qo .zero s).out.length≤3*m∧(Qo .zero s).put.length≤Qc s∧0≤(Qo .zero s).drop∧(Qo .zero s).drop≤was s by
  obtain⟨a,b,c,d⟩:=hs _ _ rfl (fun p hp=>h p (List.mem_of_mem_take hp));rw[Wbb] at a
  exact⟨by omega,Wbf b (YV l k),c,Int.le_trans d (Jo h k)⟩
 intro m
 induction m with
 | zero =>
  intro s hs _;obtain rfl:=List.eq_nil_of_length_eq_zero hs
  exact⟨by simp[Qo,NS.zero],by simp[Qo,NS.zero],by simp[Qo,NS.zero],by simp[Qo,NS.zero,was]⟩
 | succ m ih =>
  intro s hs ha;have hne:s≠[]:=by intro e;subst e;simp at hs
  have e:=List.dropLast_concat_getLast hne;generalize s.getLast hne=p at e;generalize s.dropLast=t at e;subst e;obtain⟨a,b,c,d⟩:=ih t (by simpa using hs) (fun q hq=>ha q (by simp[hq]));obtain⟨a2,b2,c2,d2⟩:=Qnj (s:=Qo .zero t) (ha p (by simp)) c;have hk:=(ha p (by simp)).2.1;have e2:Qo .zero (t++[p])=(Qo .zero t).step p:=by rw[Zt];rfl
  rw[e2,ZU,Z5];simp only[Qc,was]
  exact⟨by omega,by omega,c2,by omega⟩
theorem Qnk {l:List PT}{k:Nat}(h:k<l.length):Qo .zero (l.take (k+1))=(Qo .zero (l.take k)).step l[k]:=by
 rw[Wag h,Zt];rfl
structure NOk (s:NS):Prop where
 d:0≤s.drop
 a:∀ p∈s.out,p.arg
 e:s.out=[]∨∃ (i:List PT) (k:Int),0<k∧s.out=i++[⟨k,0,[]⟩]
theorem Qge (b:U.Bs)(d:Int):∀ p∈Qm b d,p.arg:=by
 intro p hp;unfold Qm at hp;rw[List.mem_append] at hp;rcases hp with hp | hp
 ·split at hp
  ·simp at hp
  ·rename_i h
   obtain rfl:=Wbd.1 hp;exact PT.arg_put h
 ·split at hp
  ·rename_i h
   obtain rfl:=Wbd.1 hp;exact PT.arg_drop h
  ·simp at hp
theorem Qgf (b:U.Bs){d:Int}(h:0≤d):was (Qm b d)=d∧Qc (Qm b d)=b.length:=by
 unfold Qm
 constructor
 ·rw[Z5]
  split<;>split<;>simp[was]<;>omega
 ·rw[ZU]
  split<;>split<;>simp_all [Qc]
theorem step_ok {s:NS}{p:PT}(h:NOk s)(ha:p.arg):NOk (s.step p)∧was (s.step p).out+(s.step p).drop=was s.out+s.drop+(p.keep+p.drop)∧Qc (s.step p).out+(s.step p).put.length=Qc s.out+s.put.length+p.put.length:=by
 obtain⟨h1,h2,h3⟩:=h;rcases ha.cases with ⟨q,hq,rfl⟩ | ⟨m,hm,rfl⟩ | ⟨m,hm,rfl⟩
 ·have e:s.step ⟨0,0,q⟩=⟨s.out,s.put++q,s.drop⟩:=by simp[NS.step,hq]
  rw[e];exact⟨⟨h1,h2,h3⟩,by dsimp only;omega,by simp;omega⟩
 ·have e:s.step ⟨0,m,[]⟩=⟨s.out,s.put,s.drop+m⟩:=by simp[NS.step,hm]
  rw[e];exact⟨⟨by dsimp only;omega,h2,h3⟩,by dsimp only;omega,by simp⟩
 ·have e:s.step ⟨m,0,[]⟩=s.kept ⟨m,0,[]⟩:=by
   simp only[NS.step,ne_eq,not_true_eq_false,if_false,Int.lt_irrefl];rw[if_pos (by omega)]
  rw[e];unfold NS.kept
  split
  ·rename_i hc
   obtain⟨f1,f2⟩:=Qgf s.put h1;refine⟨⟨Wba _,?_,.inr ⟨s.all,m,by omega,rfl⟩⟩,?_,?_⟩
   ·intro p hp;dsimp only[NS.all] at hp;rw[List.mem_append,List.mem_append] at hp;rcases hp with (hp | hp) | hp
    ·exact h2 p hp
    ·exact Qge _ _ p hp
    ·obtain rfl:=Wbd.1 hp;exact PT.arg_keep (by omega)
   ·dsimp only[NS.all];rw[Z5,Z5,f1];simp[was]
   ·dsimp only[NS.all];rw[ZU,ZU,f2];simp[Qc]
  ·rename_i hc
   have e1:s.put=[]:=by
    by_cases e:s.put=[]
    ·exact e
    ·exact absurd (.inl e) hc
   have e2:s.drop=0:=by
    by_cases e:0<s.drop
    ·exact absurd (.inr (.inl e)) hc
    ·omega
   rcases h3 with h3 | ⟨i,k,hk,h3⟩
   ·exact absurd (.inr (.inr h3)) hc
   ·rw[h3,Y4,e1,e2];rw[h3] at h2;refine⟨⟨Wba _,?_,.inr ⟨i,k+m,by omega,rfl⟩⟩,?_,?_⟩
    ·intro p hp;dsimp only at hp;rw[List.mem_append] at hp;rcases hp with hp | hp
     ·exact h2 p (by simp[hp])
     ·obtain rfl:=Wbd.1 hp;exact PT.arg_keep (by omega)
    ·dsimp only;rw[Z5,Z5];simp[was];omega
    ·dsimp only;rw[ZU,ZU];simp[Qc]
theorem NOk.zero:NOk .zero:=⟨Wba _,fun p hp=>by simp[NS.zero] at hp,.inl rfl⟩
theorem Qgg {l:List PT}(h:∀ p∈l,p.arg)(s:NS)(hs:NOk s):NOk (Qo s l)∧was (Qo s l).out+(Qo s l).drop=was s.out+s.drop+was l∧Qc (Qo s l).out+(Qo s l).put.length=Qc s.out+s.put.length+Qc l:=by
 induction l generalizing s with
 | nil=>exact⟨hs,by simp[Qo,was],by simp[Qo,Qc]⟩
 | cons p l ih =>
  obtain⟨a,b,c⟩:=step_ok hs (h p (by simp));obtain⟨a2,b2,c2⟩:=ih (fun q hq=>h q (by simp[hq])) _ a;rw[Yt,was,Qc]
  exact⟨a2,by omega,by omega⟩
theorem Qaf {l:List PT}(h:∀ p∈l,p.arg):(∀ p∈norm l,p.arg)∧was (norm l)=was l∧Qc (norm l)=Qc l:=by
 obtain⟨a,b,c⟩:=Qgg h .zero NOk.zero;unfold norm NS.all;obtain⟨f1,f2⟩:=Qgf (Qo .zero l).put a.d;refine⟨?_,?_,?_⟩
 ·intro p hp;rw[List.mem_append] at hp;rcases hp with hp | hp
  ·exact a.a p hp
  ·exact Qge _ _ p hp
 ·rw[Z5,f1,b];simp[NS.zero,was]
 ·rw[ZU,f2,c];simp[NS.zero,Qc]
theorem Qgh {l:List PT}(h:∀ p∈l,p.arg):(norm l).length≤3*l.length+2:=by
 have:=(Qgd h l.length).1
 rw[Wbe] at this
 have:=XI (Qo .zero l).put (Qo .zero l).drop
 unfold norm NS.all;rw[Wad];omega
end
section
def Zd (p:PT):Bool:=p.put≠[]
def tr (first:Bool):List PT→List PT→List PT
 | p :: x,q :: y =>
  if Zd p=true∧(first=true∨Zd q=false) then p :: tr first x (q :: y)
  else if Zd q=true then PT.k1 :: tr first (p :: x) y
  else if q.drop=0 then p :: tr first x y else tr first x y
 | p :: x,[]=>if Zd p=true then p :: tr first x [] else []
 | [],q :: y=>if Zd q=true then PT.k1 :: tr first [] y else []
 | [],[]=>[]
termination_by x y=>x.length+y.length
theorem QZ (c:UInt8):Zd (PT.byte c)=true:=rfl
theorem isPut_d1:Zd PT.d1=false:=rfl
theorem isPut_k1:Zd PT.k1=false:=rfl
theorem Xc (x:Bool):Zd (unit x)=false:=by cases x<;>rfl
def hput:List PT→Bool
 | []=>false
 | p :: _=>Zd p
theorem Xq {first:Bool}(b:U.Bs)(x y:List PT)(h:first=true∨hput y=false):tr first (b.map PT.byte++x) y=b.map PT.byte++tr first x y:=by
 induction b with
 | nil=>rfl
 | cons c b ih =>
  simp only[List.map_cons,Wap]
  cases y with
  | nil=>rw[tr,if_pos (QZ c),ih]
  | cons q y=>rw[tr,if_pos ⟨QZ c,h⟩,ih]
theorem Xr {first:Bool}(b:U.Bs)(x y:List PT)(h:first=false∨hput x=false):tr first x (b.map PT.byte++y)=List.replicate b.length PT.k1++tr first x y:=by
 induction b with
 | nil=>rfl
 | cons c b ih =>
  simp only[List.map_cons,Wap,Wan,Wat]
  cases x with
  | nil=>rw[tr,if_pos (QZ c),ih]
  | cons p x =>
   rw[tr,if_neg,if_pos (QZ c),ih];rintro⟨h1,h2⟩;rw[QZ] at h2;rcases h with h | h
   ·subst h;simp at h2
   ·have h':Zd p=false:=h;rw[h'] at h1;exact absurd h1 (by simp)
theorem Ja {first:Bool}(n:Nat)(u v:Bool)(x y:List PT):tr first (List.replicate n (unit u)++x) (List.replicate n (unit v)++y)=(if v=true then [] else List.replicate n (unit u))++tr first x y:=by
 induction n with
 | zero=>simp
 | succ n ih =>
  simp only[Wat,Wap];rw[tr,if_neg (by simp[Xc]),if_neg (by simp[Xc]),ih]
  cases v<;>simp[unit,PT.d1,PT.k1]
def Xt (first:Bool)(px py:U.Bs):List PT:=if first=true then px.map PT.byte++List.replicate py.length PT.k1 else List.replicate py.length PT.k1++px.map PT.byte
def YJ (first:Bool):List (U.Bs × Bool)→List (U.Bs × Bool)→U.Bs→U.Bs→List PT
 | (px,dx) :: x,(py,dy) :: y,ex,ey=>Xt first px py++(if dy=true then [] else [unit dx])++YJ first x y ex ey
 | _,_,ex,ey=>Xt first ex ey
theorem Qiq {first:Bool}(px py:U.Bs)(x y:List PT)(hx:hput x=false)(hy:hput y=false):tr first (px.map PT.byte++x) (py.map PT.byte++y)=Xt first px py++tr first x y:=by
 unfold Xt
 cases first with
 | true=>rw[Xq _ _ _ (.inl rfl),Xr _ _ _ (.inr hx)];simp
 | false=>rw[Xr _ _ _ (.inl rfl),Xq _ _ _ (.inr hy)];simp
theorem Qrm {first:Bool}{x y:List (U.Bs × Bool)}(h:x.length=y.length)(ex ey:U.Bs):YJ first x y ex ey=tr first (SS.exp ⟨x,ex⟩) (SS.exp ⟨y,ey⟩):=by
 induction x generalizing y with
 | nil =>
  cases y with
  | nil =>
   rw[YJ]
   ·have:=Qiq (first:=first) ex ey [] [] rfl rfl
    simp only[Wam] at this;simp only[SS.exp,List.flatMap_nil,Wbn];rw[this,tr];simp
   ·simp
  | cons q y=>simp at h
 | cons p x ih =>
  cases y with
  | nil=>simp at h
  | cons q y =>
   obtain⟨px,dx⟩:=p;obtain⟨py,dy⟩:=q;rw[YJ,ih (by simpa using h)];simp only[SS.exp,List.flatMap_cons,Wah];rw[Qiq _ _ _ _ (by simp[hput,Xc]) (by simp[hput,Xc])]
   have:=Ja (first:=first) 1 dx dy (List.flatMap (fun p=>p.1.map PT.byte++[unit p.2]) x++ex.map PT.byte) (List.flatMap (fun p=>p.1.map PT.byte++[unit p.2]) y++ey.map PT.byte)
   simp only[List.replicate_one] at this;rw[this]
def cm:List PT→List PT→List PT
 | p :: x,q :: y =>
  if 0<p.drop then p :: cm x (q :: y)
  else if Zd q=true then q :: cm (p :: x) y
  else if Zd p=true then (if 0<q.keep then [p] else [])++cm x y
  else (if 0<q.keep then [PT.k1] else [PT.d1])++cm x y
 | p :: x,[]=>if 0<p.drop then p :: cm x [] else []
 | [],q :: y=>if Zd q=true then q :: cm [] y else []
 | [],[]=>[]
termination_by x y=>x.length+y.length
def hdrop:List PT→Prop
 | []=>False
 | p :: _=>0<p.drop
theorem Qir (n:Nat)(x y:List PT):cm (List.replicate n PT.d1++x) y=List.replicate n PT.d1++cm x y:=by
 induction n with
 | zero=>rfl
 | succ n ih =>
  simp only[Wat,Wap]
  cases y with
  | nil=>rw[cm,if_pos (by decide),ih]
  | cons q y=>rw[cm,if_pos (by decide),ih]
theorem Qa7 (b:U.Bs)(x y:List PT)(h:¬ hdrop x):cm x (b.map PT.byte++y)=b.map PT.byte++cm x y:=by
 induction b with
 | nil=>rfl
 | cons c b ih =>
  simp only[List.map_cons,Wap]
  cases x with
  | nil=>rw[cm,if_pos (QZ c),ih]
  | cons p x=>rw[cm,if_neg (show ¬ 0<p.drop from h),if_pos (QZ c),ih]
theorem Qdo (b:U.Bs)(v:Bool)(x y:List PT):cm (b.map PT.byte++x) (List.replicate b.length (unit v)++y)=(if v=true then [] else b.map PT.byte)++cm x y:=by
 induction b with
 | nil=>cases v<;>rfl
 | cons c b ih =>
  simp only[List.map_cons,Wap,Wan,Wat];rw[cm,if_neg (by simp[PT.byte]),if_neg (by simp[Xc]),if_pos (QZ c),ih]
  cases v<;>simp[unit,PT.k1,PT.d1]
theorem Qdp (n:Nat)(v:Bool)(x y:List PT):cm (List.replicate n PT.k1++x) (List.replicate n (unit v)++y)=List.replicate n (unit v)++cm x y:=by
 induction n with
 | zero=>rfl
 | succ n ih =>
  simp only[Wat,Wap];rw[cm,if_neg (by decide),if_neg (by simp[Xc]),if_neg (by simp[isPut_k1]),ih]
  cases v<;>simp[unit,PT.k1,PT.d1]
structure Cl where
 from_:Int
 c:UInt8
def Qq (at_:Nat):List PT→List Cl
 | []=>[]
 | p :: l=>if Zd p=true then p.put.map (fun c=>⟨-1,c⟩)++Qq at_ l else if 0<p.drop then Qq (at_+1) l else ⟨at_,0⟩ :: Qq (at_+1) l
def Q4:List PT→List Cl→List Cl
 | [],_=>[]
 | q :: y,ms=>if Zd q=true then q.put.map (fun c=>⟨-1,c⟩)++Q4 y ms else match ms with
  | []=>[]
  | m :: ms=>if 0<q.keep then m :: Q4 y ms else Q4 y ms
theorem J7 {q:PT}(h:Zd q=true)(y:List PT)(ms:List Cl):Q4 (q :: y) ms=q.put.map (fun c=>⟨-1,c⟩)++Q4 y ms:=by
 cases ms<;>simp[Q4,h]
theorem Jb {q:PT}(h:¬ Zd q=true)(y:List PT)(m:Cl)(ms:List Cl):Q4 (q :: y) (m :: ms)=if 0<q.keep then m :: Q4 y ms else Q4 y ms:=by
 simp[Q4,h]
def Yo (p:PT):Prop:=(∃ c,p=PT.byte c)∨p=PT.d1∨p=PT.k1
theorem Qrn {p:PT}:∀ q∈p.exp,Yo q:=by
 intro q hq;unfold PT.exp at hq
 split at hq
 ·obtain⟨c,_,rfl⟩:=List.mem_map.1 hq;exact .inl ⟨c,rfl⟩
 ·split at hq
  ·exact .inr (.inl (List.eq_of_mem_replicate hq))
  ·exact .inr (.inr (List.eq_of_mem_replicate hq))
theorem Qdq {l:List PT}:∀ q∈Qf l,Yo q:=by
 intro q hq;unfold Qf at hq;obtain⟨p,_,h⟩:=List.mem_flatMap.1 hq;exact Qrn q h
def Qj:List PT→Nat
 | []=>0
 | p :: l=>(if Zd p=true then 0 else 1)+Qj l
def Q6:List PT→Nat
 | []=>0
 | p :: l=>(if 0<p.drop then 0 else 1)+Q6 l
theorem Qro {x y:List PT}(hx:∀ p∈x,Yo p)(hy:∀ p∈y,Yo p)(h:Q6 x=Qj y)(at_:Nat):Qq at_ (cm x y)=Q4 y (Qq at_ x)∧Qj (cm x y)=Qj x∧∀ p∈cm x y,Yo p:=by
 induction x,y using cm.induct generalizing at_ with
 | case1 p x q y hd ih =>
  rw[cm,if_pos hd]
  obtain rfl:p=PT.d1:=by
   rcases hx p (by simp) with ⟨c,rfl⟩ | h | rfl
   ·simp[PT.byte] at hd
   ·exact h
   ·simp[PT.k1] at hd
  obtain⟨h1,h2,h3⟩:=ih (fun p hp=>hx p (by simp[hp])) hy (by simpa [Q6,PT.d1] using h) (at_+1);refine⟨?_,?_,?_⟩
  ·rw[Qq,if_neg (by simp[isPut_d1]),if_pos (by decide),h1,Qq,if_neg (by simp[isPut_d1]),if_pos (by decide)]
  ·rw[Qj,Qj,h2]
  ·intro p hp;rcases Wbk.1 hp with rfl | hp
   ·exact .inr (.inl rfl)
   ·exact h3 p hp
 | case2 p x q y hd hq ih =>
  rw[cm,if_neg hd,if_pos hq]
  obtain⟨c,rfl⟩:∃ c,q=PT.byte c:=by
   rcases hy q (by simp) with h | rfl | rfl
   ·exact h
   ·simp[isPut_d1] at hq
   ·simp[isPut_k1] at hq
  obtain⟨h1,h2,h3⟩:=ih hx (fun p hp=>hy p (by simp[hp])) (by rw[h,Qj,if_pos hq];omega) at_;refine⟨?_,?_,?_⟩
  ·simp only[Qq,if_pos hq];rw[h1,J7 hq];rfl
  ·simp only[Qj,if_pos hq];rw[h2];simp[Qj]
  ·intro p hp;rcases Wbk.1 hp with rfl | hp
   ·exact .inl ⟨c,rfl⟩
   ·exact h3 p hp
 | case3 p x q y hd hq hp ih =>
  rw[cm,if_neg hd,if_neg hq,if_pos hp]
  obtain⟨c,rfl⟩:∃ c,p=PT.byte c:=by
   rcases hx p (by simp) with h | rfl | rfl
   ·exact h
   ·simp[isPut_d1] at hp
   ·simp[isPut_k1] at hp
  obtain⟨h1,h2,h3⟩:=ih (fun p hp=>hx p (by simp[hp])) (fun p hp=>hy p (by simp[hp])) (by simp only[Q6,Qj,if_neg hd,if_neg hq] at h;omega) at_;have e:Qq at_ (PT.byte c :: x)=⟨-1,c⟩ :: Qq at_ x:=by rw[Qq,if_pos hp];rfl
  rw[e,Jb hq]
  by_cases hk:0<q.keep
  ·simp only[if_pos hk,List.singleton_append];refine⟨?_,?_,?_⟩
   ·rw[Qq,if_pos hp,h1];rfl
   ·rw[Qj,if_pos hp,h2,Qj,if_pos hp]
   ·intro p hp;rcases Wbk.1 hp with rfl | hp
    ·exact .inl ⟨c,rfl⟩
    ·exact h3 p hp
  ·simp only[if_neg hk,Wbn]
   exact⟨h1,by rw[h2,Qj,if_pos hp];omega,h3⟩
 | case4 p x q y hd hq hp ih =>
  rw[cm,if_neg hd,if_neg hq,if_neg hp]
  obtain rfl:p=PT.k1:=by
   rcases hx p (by simp) with ⟨c,rfl⟩ | rfl | h
   ·simp[QZ] at hp
   ·simp[PT.d1] at hd
   ·exact h
  obtain⟨h1,h2,h3⟩:=ih (fun p hp=>hx p (by simp[hp])) (fun p hp=>hy p (by simp[hp])) (by simp only[Q6,Qj,if_neg hd,if_neg hq] at h;omega) (at_+1);have e:Qq at_ (PT.k1 :: x)=⟨at_,0⟩ :: Qq (at_+1) x:=by rw[Qq,if_neg hp,if_neg hd]
  rw[e,Jb hq]
  by_cases hk:0<q.keep
  ·simp only[if_pos hk,List.singleton_append];refine⟨?_,?_,?_⟩
   ·rw[Qq,if_neg hp,if_neg hd,h1]
   ·rw[Qj,h2,Qj]
   ·intro p hp;rcases Wbk.1 hp with rfl | hp
    ·exact .inr (.inr rfl)
    ·exact h3 p hp
  ·simp only[if_neg hk,List.singleton_append];refine⟨?_,?_,?_⟩
   ·rw[Qq,if_neg (by simp[isPut_d1]),if_pos (by decide),h1]
   ·rw[Qj,h2,Qj];rfl
   ·intro p hp;rcases Wbk.1 hp with rfl | hp
    ·exact .inr (.inl rfl)
    ·exact h3 p hp
 | case5 p x hd ih =>
  rw[cm,if_pos hd]
  obtain rfl:p=PT.d1:=by
   rcases hx p (by simp) with ⟨c,rfl⟩ | h | rfl
   ·simp[PT.byte] at hd
   ·exact h
   ·simp[PT.k1] at hd
  obtain⟨h1,h2,h3⟩:=ih (fun p hp=>hx p (by simp[hp])) hy (by simpa [Q6,PT.d1] using h) (at_+1);refine⟨?_,?_,?_⟩
  ·rw[Qq,if_neg (by simp[isPut_d1]),if_pos (by decide),h1];rfl
  ·rw[Qj,Qj,h2]
  ·intro p hp;rcases Wbk.1 hp with rfl | hp
   ·exact .inr (.inl rfl)
   ·exact h3 p hp
 | case6 p x hd=>simp[Q6,Qj,if_neg hd] at h
 | case7 q y hq ih =>
  rw[cm,if_pos hq]
  obtain⟨c,rfl⟩:∃ c,q=PT.byte c:=by
   rcases hy q (by simp) with h | rfl | rfl
   ·exact h
   ·simp[isPut_d1] at hq
   ·simp[isPut_k1] at hq
  obtain⟨h1,h2,h3⟩:=ih hx (fun p hp=>hy p (by simp[hp])) (by rw[h,Qj,if_pos hq];omega) at_;refine⟨?_,?_,?_⟩
  ·simp only[Qq,if_pos hq];rw[h1,J7 hq];rfl
  ·simp only[Qj,if_pos hq];rw[h2];simp[Qj]
  ·intro p hp;rcases Wbk.1 hp with rfl | hp
   ·exact .inl ⟨c,rfl⟩
   ·exact h3 p hp
 | case8 q y hq=>simp only[Q6,Qj,if_neg hq] at h;omega
 | case9=>rw[cm];exact⟨rfl,rfl,fun p hp=>by simp at hp⟩
def SS.cell (s:SS)(x:Cl):SS:=if x.from_<0 then ⟨s.l,s.e++[x.c]⟩ else SS.take false 1 (SS.take true (x.from_.toNat-s.l.length) s)
def SS.full (n:Nat)(s:SS):SS:=SS.take true (n-s.l.length) s
def YK (n:Nat)(l:List Cl):SS:=(l.foldl SS.cell .zero).full n
theorem SS.take_len (x:Bool)(k:Nat)(s:SS):(SS.take x k s).l.length=s.l.length+k:=by
 induction k generalizing s with
 | zero=>rfl
 | succ k ih=>rw[SS.take,ih];simp;omega
theorem Qrp (s:NS)(k:Nat)(c:UInt8):Qo (Qo s (List.replicate k PT.d1)) [PT.byte c]=Qo (Qo s [PT.byte c]) (List.replicate k PT.d1):=by
 have h:=fun s:NS=>JR s [c]
 simp only[List.map_cons,List.map_nil] at h;rw[h,h,JS,JS]
theorem Qrq {u:List PT}(hu:∀ p∈u,Yo p)(s:SS)(at_:Nat)(h:s.l.length≤at_) :
  Qo .zero (((Qq at_ u).foldl SS.cell s).full (at_+Qj u)).exp=Qo (Qo (Qo .zero s.exp) (List.replicate (at_-s.l.length) PT.d1)) u:=by
 induction u generalizing s at_ with
 | nil =>
  simp only[Qq,List.foldl_nil,Qj,Nat.add_zero,SS.full];rw[SS.exp_take,Zt];rfl
 | cons p u ih =>
  have hu':∀ p∈u,Yo p:=fun q hq=>hu q (by simp[hq])
  rcases hu p (by simp) with ⟨c,rfl⟩ | rfl | rfl
  ·rw[Qq,if_pos (QZ c),Qj,if_pos (QZ c),Nat.zero_add];simp only[PT.byte,List.map_cons,List.map_nil,List.singleton_append,List.foldl_cons];have e:SS.cell s ⟨-1,c⟩=⟨s.l,s.e++[c]⟩:=by unfold SS.cell;rw[if_pos (show (-1:Int)<0 by decide)]
   rw[e,ih hu' ⟨s.l,s.e++[c]⟩ at_ h];have e2:(⟨s.l,s.e++[c]⟩:SS).exp=s.exp++[PT.byte c]:=by simp[SS.exp]
   rw[e2,Zt,Yt];change Qo (Qo (Qo _ [PT.byte c]) _) u=Qo (Qo (Qo _ _) [PT.byte c]) u;rw[Qrp]
  ·rw[Qq,if_neg (by simp[isPut_d1]),if_pos (by decide),Qj,if_neg (by simp[isPut_d1]),← Nat.add_assoc,ih hu' s (at_+1) (by omega),Yt,
    show at_+1-s.l.length=(at_-s.l.length)+1 from by omega,List.replicate_succ',Zt]
   rfl
  ·rw[Qq,if_neg (by simp[isPut_k1]),if_neg (by decide),Qj,if_neg (by simp[isPut_k1]),← Nat.add_assoc,List.foldl_cons]
   have e:SS.cell s ⟨at_,0⟩=SS.take false 1 (SS.take true (at_-s.l.length) s):=by
    unfold SS.cell;rw[if_neg (by simp)];simp
   have hl:(SS.take false 1 (SS.take true (at_-s.l.length) s)).l.length=at_+1:=by rw[SS.take_len,SS.take_len];omega
   rw[e,ih hu' _ (at_+1) (by omega),hl,SS.exp_take,SS.exp_take,Nat.sub_self,Zt,Zt,Yt]
   rfl
theorem Qrr {u:List PT}(hu:∀ p∈u,Yo p):gather (YK (Qj u) (Qq 0 u))=(Qo .zero u).all:=by
 have h:=Qrq hu .zero 0 (by simp[SS.zero]);rw[Nat.zero_add] at h;rw[Qet,YK,h];rfl
end
section
theorem ZR (n:Nat):(⟨0,n,[]⟩:PT).exp=List.replicate n PT.d1:=by
 unfold PT.exp;rw[if_neg (by simp)];dsimp only
 by_cases h:0<(n:Int)
 ·rw[if_pos h];simp
 ·rw[if_neg h];obtain rfl:n=0:=by omega
  rfl
theorem ZJ (n:Nat):(⟨n,0,[]⟩:PT).exp=List.replicate n PT.k1:=by
 unfold PT.exp;rw[if_neg (by simp)];dsimp only;rw[if_neg (by decide)];simp
def PT.size (p:PT):Nat:=p.exp.length
theorem size_put (b:U.Bs):(⟨0,0,b⟩:PT).size=b.length:=by rw[PT.size,Z4];simp
theorem XB (n:Nat):(⟨0,n,[]⟩:PT).size=n:=by rw[PT.size,ZR];simp
theorem XC (n:Nat):(⟨n,0,[]⟩:PT).size=n:=by rw[PT.size,ZJ];simp
def PT.left (p:PT)(n:Nat):PT:=if p.put≠[] then ⟨0,0,p.put.drop n⟩ else if 0<p.keep then ⟨p.keep-n,0,[]⟩ else ⟨0,p.drop-n,[]⟩
theorem PT.left_exp {p:PT}(h:p.arg){n:Nat}(hn:n≤p.size):(p.left n).exp=p.exp.drop n:=by
 rcases h.cases with ⟨b,hb,rfl⟩ | ⟨m,hm,rfl⟩ | ⟨m,hm,rfl⟩
 ·simp only[PT.left,if_pos hb,ne_eq];rw[Z4,Z4,List.map_drop]
 ·rw[XB] at hn;simp only[PT.left,ne_eq,not_true_eq_false,if_false,Int.lt_irrefl];rw[show ((m:Int)-n)=((m-n:Nat):Int) from by omega,ZR,ZR,List.drop_replicate]
 ·rw[XC] at hn;simp only[PT.left,ne_eq,not_true_eq_false,if_false];rw[if_pos (by omega),show ((m:Int)-n)=((m-n:Nat):Int) from by omega,ZJ,ZJ,List.drop_replicate]
theorem PT.left_arg {p:PT}(h:p.arg){n:Nat}(hn:n<p.size):(p.left n).arg:=by
 rcases h.cases with ⟨b,hb,rfl⟩ | ⟨m,hm,rfl⟩ | ⟨m,hm,rfl⟩
 ·rw[size_put] at hn;simp only[PT.left,if_pos hb,ne_eq];exact PT.arg_put (fun e=>by have:=congrArg List.length e;simp at this;omega)
 ·rw[XB] at hn;simp only[PT.left,ne_eq,not_true_eq_false,if_false,Int.lt_irrefl];exact PT.arg_drop (by omega)
 ·rw[XC] at hn;simp only[PT.left,ne_eq,not_true_eq_false,if_false];rw[if_pos (by omega)];exact PT.arg_keep (by omega)
def Tok (l:List PT)(n:Nat):Prop:=(∀ p∈l,p.arg)∧match l with | []=>n=0 | p :: _=>n≤p.size
def tape (l:List PT)(n:Nat):List PT:=(Qf l).drop n
def Nx (u:List PT)(p:PT)(some:Bool):Prop:=(some=true∧p.arg∧∃ r,u=p.exp++r)∨(some=false∧p=⟨0,0,[]⟩∧u=[])
theorem Qmm {p:PT}{l:List PT}{n:Nat}(h:n=p.size):tape (p :: l) n=tape l 0:=by
 unfold tape;rw[Yc,h,PT.size,List.drop_left,List.drop_zero]
theorem Qmn {p:PT}{l:List PT}{n:Nat}(h:n≤p.size)(ha:p.arg):tape (p :: l) n=(p.left n).exp++Qf l:=by
 unfold tape;rw[Yc,List.drop_append_of_le_length h,PT.left_exp ha h]
theorem Qfp {l:List PT}{n m:Nat}:tape l (n+m)=(tape l n).drop m:=by unfold tape;rw[List.drop_drop]
theorem Nx.hput {u:List PT}{p:PT}{s:Bool}(h:Nx u p s):hput u=decide (p.put≠[]):=by
 rcases h with ⟨_,ha,r,rfl⟩ | ⟨_,rfl,rfl⟩
 ·rcases ha.cases with ⟨b,hb,rfl⟩ | ⟨n,hn,rfl⟩ | ⟨n,hn,rfl⟩
  ·rw[Z4]
   match b,hb with
   | c :: b,_=>simp[Go.Proofs.YtdgdajnbkfmijaaGreatDoor.hput,QZ]
  ·rw[ZR];obtain⟨m,rfl⟩:∃ m,n=m+1:=⟨n-1,by omega⟩;simp[Wat,Go.Proofs.YtdgdajnbkfmijaaGreatDoor.hput,isPut_d1]
  ·rw[ZJ];obtain⟨m,rfl⟩:∃ m,n=m+1:=⟨n-1,by omega⟩;simp[Wat,Go.Proofs.YtdgdajnbkfmijaaGreatDoor.hput,isPut_k1]
 ·simp[Go.Proofs.YtdgdajnbkfmijaaGreatDoor.hput]
theorem Y9 (l:List PT)(p:PT):Qf (l++[p])=Qf l++p.exp:=by rw[YT];simp[Qf]
section
variable {first:Bool}{x y out:List PT}{p q:PT}{s t:Bool}
theorem Qb8 (hx:Nx x p s)(hy:Nx y q t)(hp:p.put≠[])(h:first=true∨q.put=[]) :
  s=true∧p.arg∧Qf (out++[p])++tr first (x.drop p.put.length) y=Qf out++tr first x y∧Qj (x.drop p.put.length)=Qj x∧(x.drop p.put.length).length+p.put.length=x.length:=by
 rcases hx with ⟨rfl,ha,r,rfl⟩ | ⟨_,rfl,rfl⟩
 ·refine⟨rfl,ha,?_⟩;rcases ha.cases with ⟨b,hb,rfl⟩ | ⟨n,hn,rfl⟩ | ⟨n,hn,rfl⟩
  ·have e:(List.map PT.byte b++r).drop b.length=r:=by
    have:=List.drop_left (l₁:=List.map PT.byte b) (l₂:=r)
    rwa [Wbi] at this
   rw[Y9,Z4];dsimp only;rw[e,Xq b r y (h.imp id fun hq=>by rw[hy.hput,hq];simp),Wah];refine⟨rfl,?_,by simp;omega⟩;clear e hb hp ha
   induction b with
   | nil=>rfl
   | cons c b ih=>simp only[List.map_cons,Wap,Qj,QZ,if_true,← ih];omega
  ·exact absurd rfl hp
  ·exact absurd rfl hp
 ·exact absurd rfl hp
theorem Qfq (hx:Nx x p s)(hy:Nx y q t)(hq:q.put≠[])(h:first=false∨p.put=[]) :
  t=true∧(⟨q.put.length,0,[]⟩:PT).arg∧Qf (out++[⟨q.put.length,0,[]⟩])++tr first x (y.drop q.put.length)=Qf out++tr first x y∧Qj (y.drop q.put.length)=Qj y∧(y.drop q.put.length).length+q.put.length=y.length:=by
 have hl:0<q.put.length:=Wax.2 hq;rcases hy with ⟨rfl,ha,r,rfl⟩ | ⟨_,rfl,rfl⟩
 ·refine⟨rfl,PT.arg_keep (by omega),?_⟩;rcases ha.cases with ⟨b,hb,rfl⟩ | ⟨n,hn,rfl⟩ | ⟨n,hn,rfl⟩
  ·have e:(List.map PT.byte b++r).drop b.length=r:=by
    have:=List.drop_left (l₁:=List.map PT.byte b) (l₂:=r)
    rwa [Wbi] at this
   rw[Y9,ZJ,Z4];dsimp only;rw[e,Xr b x r (h.imp id fun hq=>by rw[hx.hput,hq];simp),Wah];refine⟨rfl,?_,by simp;omega⟩;clear e hb hq ha hl
   induction b with
   | nil=>rfl
   | cons c b ih=>simp only[List.map_cons,Wap,Qj,QZ,if_true,← ih];omega
  ·exact absurd rfl hq
  ·exact absurd rfl hq
 ·exact absurd rfl hq
theorem QS (a b:List PT):Qj (a++b)=Qj a+Qj b:=by
 induction a with
 | nil=>simp[Qj]
 | cons p a ih=>rw[Wap,Qj,Qj,ih];omega
theorem Xj (a b:List PT):Q6 (a++b)=Q6 a+Q6 b:=by
 induction a with
 | nil=>simp[Q6]
 | cons p a ih=>rw[Wap,Q6,Q6,ih];omega
theorem ZT (n:Nat)(v:Bool):Qj (List.replicate n (unit v))=n:=by
 induction n with
 | zero=>rfl
 | succ n ih=>rw[Wat,Qj,if_neg (by simp[Xc]),ih];omega
theorem Nx.noput (hx:Nx x p s)(hp:p.put=[])(hs:s=true):∃ (n:Nat) (v:Bool) (r:List PT),0<n∧p.keep+p.drop=n∧x=List.replicate n (unit v)++r∧(v=true↔¬ 0<p.keep)∧p=(if v=true then ⟨0,n,[]⟩ else ⟨n,0,[]⟩):=by
 rcases hx with ⟨_,ha,r,rfl⟩ | ⟨h,_⟩
 ·rcases ha.cases with ⟨b,hb,rfl⟩ | ⟨n,hn,rfl⟩ | ⟨n,hn,rfl⟩
  ·exact absurd hp hb
  ·exact⟨n,true,r,hn,by simp,by rw[ZR];rfl,by simp,by simp⟩
  ·exact⟨n,false,r,hn,by simp,by rw[ZJ];rfl,by simp;omega,by simp⟩
 ·subst hs;exact absurd h (by simp)
theorem Nx.some_of (hx:Nx x p s)(h:0<x.length):s=true:=by
 rcases hx with ⟨h,_⟩ | ⟨_,_,rfl⟩
 ·exact h
 ·simp at h
theorem Qmo (hx:Nx x p s)(hy:Nx y q t)(hp:p.put=[])(hq:q.put=[])(hw:Qj x=Qj y)(hs:s=true∨t=true) :
  ∃ n:Nat,0<n∧min (p.keep+p.drop) (q.keep+q.drop)=n∧n≤x.length∧n≤y.length∧Qj (x.drop n)=Qj (y.drop n) ∧
   (0<q.keep→0<p.keep→Qf (out++[⟨n,0,[]⟩])++tr first (x.drop n) (y.drop n)=Qf out++tr first x y) ∧
   (0<q.keep→¬ 0<p.keep→Qf (out++[⟨0,n,[]⟩])++tr first (x.drop n) (y.drop n)=Qf out++tr first x y) ∧
   (¬ 0<q.keep→Qf out++tr first (x.drop n) (y.drop n)=Qf out++tr first x y):=by
 have both:s=true∧t=true:=by
  rcases hs with h | h
  ·refine⟨h,?_⟩;obtain⟨n,v,r,hn,_,rfl,_⟩:=hx.noput hp h;rw[QS,ZT] at hw;refine hy.some_of ?_
   cases y with
   | nil=>simp[Qj] at hw;omega
   | cons=>simp
  ·refine⟨?_,h⟩;obtain⟨n,v,r,hn,_,rfl,_⟩:=hy.noput hq h;rw[QS,ZT] at hw;refine hx.some_of ?_
   cases x with
   | nil=>simp[Qj] at hw;omega
   | cons=>simp
 obtain⟨n1,u,r1,h1,e1,rfl,hu,_⟩:=hx.noput hp both.1;obtain⟨n2,v,r2,h2,e2,rfl,hv,_⟩:=hy.noput hq both.2;obtain⟨n,hn⟩:∃ n,n=min n1 n2:=⟨_,rfl⟩;have hn1:n≤n1:=by omega
 have hn2:n≤n2:=by omega
 have d1:∀ (m:Nat) (w:Bool) (r:List PT),n≤m→(List.replicate m (unit w)++r).drop n=List.replicate (m-n) (unit w)++r:=fun m w r h=>by
  rw[List.drop_append_of_le_length (by simpa using h),List.drop_replicate]
 have s1:∀ (m:Nat) (w:Bool) (r:List PT),n≤m→List.replicate m (unit w)++r=List.replicate n (unit w)++(List.replicate (m-n) (unit w)++r):=fun m w r h=>by
  rw[← Wah,List.replicate_append_replicate,show n+(m-n)=m from by omega]
 have key:tr first (List.replicate n1 (unit u)++r1) (List.replicate n2 (unit v)++r2)=(if v=true then [] else List.replicate n (unit u))++tr first (List.replicate (n1-n) (unit u)++r1) (List.replicate (n2-n) (unit v)++r2):=by
  rw[s1 n1 u r1 hn1,s1 n2 v r2 hn2,Ja]
 refine⟨n,by omega,by omega,by simp;omega,by simp;omega,?_⟩;rw[d1 _ _ _ hn1,d1 _ _ _ hn2,key];refine⟨?_,?_,?_,?_⟩
 ·simp only[QS,ZT] at hw ⊢;omega
 ·intro hk hk2;rw[Y9,ZJ,Wah,if_neg (fun e=>hv.1 e hk)]
  have:u=false:=by
   cases u with
   | false=>rfl
   | true=>exact absurd hk2 (hu.1 rfl)
  subst this;rfl
 ·intro hk hk2;rw[Y9,ZR,Wah,if_neg (fun e=>hv.1 e hk)]
  have:u=true:=hu.2 hk2
  subst this;rfl
 ·intro hk;rw[if_pos (hv.2 hk)];rfl
end
section
variable {x y out:List PT}{p q:PT}{s t:Bool}
theorem Qab (n:Nat):Q6 (List.replicate n PT.k1)=n:=by
 induction n with
 | zero=>rfl
 | succ n ih=>rw[Wat,Q6,if_neg (by decide),ih];omega
theorem Qfr (n:Nat):Q6 (List.replicate n PT.d1)=0:=by
 induction n with
 | zero=>rfl
 | succ n ih=>rw[Wat,Q6,if_pos (by decide),ih]
theorem Qb9 (b:U.Bs):Q6 (b.map PT.byte)=b.length:=by
 induction b with
 | nil=>rfl
 | cons c b ih=>simp only[List.map_cons,Q6,Wan];rw[if_neg (by simp[PT.byte]),ih];omega
theorem XD (b:U.Bs):Qj (b.map PT.byte)=0:=by
 induction b with
 | nil=>rfl
 | cons c b ih=>simp only[List.map_cons,Qj];rw[if_pos (QZ c),ih]
theorem Nx.hdrop (h:Nx x p s):Go.Proofs.YtdgdajnbkfmijaaGreatDoor.hdrop x↔0<p.drop:=by
 rcases h with ⟨_,ha,r,rfl⟩ | ⟨_,rfl,rfl⟩
 ·rcases ha.cases with ⟨b,hb,rfl⟩ | ⟨n,hn,rfl⟩ | ⟨n,hn,rfl⟩
  ·rw[Z4]
   match b,hb with
   | c :: b,_=>simp[Go.Proofs.YtdgdajnbkfmijaaGreatDoor.hdrop,PT.byte]
  ·rw[ZR];obtain⟨m,rfl⟩:∃ m,n=m+1:=⟨n-1,by omega⟩;simp[Wat,Go.Proofs.YtdgdajnbkfmijaaGreatDoor.hdrop,PT.d1]
  ·rw[ZJ];obtain⟨m,rfl⟩:∃ m,n=m+1:=⟨n-1,by omega⟩;simp[Wat,Go.Proofs.YtdgdajnbkfmijaaGreatDoor.hdrop,PT.k1]
 ·simp[Go.Proofs.YtdgdajnbkfmijaaGreatDoor.hdrop]
theorem Nx.isPut_ (hx:Nx x p s)(hp:p.put≠[]):s=true∧p=⟨0,0,p.put⟩∧∃ r,x=p.put.map PT.byte++r:=by
 rcases hx with ⟨rfl,ha,r,rfl⟩ | ⟨_,rfl,rfl⟩
 ·rcases ha.cases with ⟨b,hb,rfl⟩ | ⟨n,hn,rfl⟩ | ⟨n,hn,rfl⟩
  ·exact⟨rfl,rfl,r,by rw[Z4]⟩
  ·exact absurd rfl hp
  ·exact absurd rfl hp
 ·exact absurd rfl hp
theorem Qmp (hx:Nx x p s)(hp:0<p.drop)(hw:Q6 x=Qj y) :
  ∃ n:Nat,0<n∧p=⟨0,n,[]⟩∧Qf (out++[p])++cm (x.drop n) y=Qf out++cm x y∧Q6 (x.drop n)=Qj y∧(x.drop n).length+n=x.length:=by
 rcases hx with ⟨rfl,ha,r,rfl⟩ | ⟨_,rfl,rfl⟩
 ·rcases ha.cases with ⟨b,hb,rfl⟩ | ⟨n,hn,rfl⟩ | ⟨n,hn,rfl⟩
  ·exact absurd hp (by simp)
  ·rw[ZR] at hw ⊢
   have e:(List.replicate n PT.d1++r).drop n=r:=by
    have:=List.drop_left (l₁:=List.replicate n PT.d1) (l₂:=r)
    rwa [List.length_replicate] at this
   refine⟨n,hn,rfl,?_,?_,by simp;omega⟩
   ·rw[e,Y9,ZR,Qir,Wah]
   ·rw[e,← hw,Xj,Qfr];omega
  ·exact absurd hp (by simp)
 ·exact absurd hp (by simp)
theorem Qmq (hx:Nx x p s)(hy:Nx y q t)(hp:¬ 0<p.drop)(hq:q.put≠[])(hw:Q6 x=Qj y) :
  q.arg∧Qf (out++[q])++cm x (y.drop q.put.length)=Qf out++cm x y∧Q6 x=Qj (y.drop q.put.length)∧(y.drop q.put.length).length+q.put.length=y.length:=by
 obtain⟨_,hq2,r,rfl⟩:=hy.isPut_ hq
 have e:(List.map PT.byte q.put++r).drop q.put.length=r:=by
  have:=List.drop_left (l₁:=List.map PT.byte q.put) (l₂:=r)
  rwa [Wbi] at this
 refine⟨by rw[hq2];exact PT.arg_put hq,?_,?_,by simp;omega⟩
 ·rw[e,Qa7 _ _ _ (fun h=>hp (hx.hdrop.1 h)),Y9,hq2,Z4,Wah]
 ·rw[e,hw,QS,XD];omega
theorem Qmr (hx:Nx x p s)(hy:Nx y q t)(hp:p.put≠[])(hq:q.put=[])(hw:Q6 x=Qj y) :
  ∃ n:Nat,0<n∧min (p.put.length:Int) (q.keep+q.drop)=n∧n≤p.put.length∧n≤x.length∧n≤y.length∧Q6 (x.drop n)=Qj (y.drop n) ∧
   (0<q.keep→(⟨0,0,p.put.take n⟩:PT).arg∧Qf (out++[⟨0,0,p.put.take n⟩])++cm (x.drop n) (y.drop n)=Qf out++cm x y) ∧
   (¬ 0<q.keep→Qf out++cm (x.drop n) (y.drop n)=Qf out++cm x y):=by
 obtain⟨_,hp2,r1,rfl⟩:=hx.isPut_ hp;have hl:0<p.put.length:=Wax.2 hp;rw[Xj,Qb9] at hw
 have ht:t=true:=by
  refine hy.some_of ?_
  cases y with
  | nil=>simp only[Qj] at hw;omega
  | cons=>simp
 obtain⟨n2,v,r2,h2,e2,rfl,hv,_⟩:=hy.noput hq ht;rw[QS,ZT] at hw;obtain⟨n,hn⟩:∃ n,n=min p.put.length n2:=⟨_,rfl⟩;have hn1:n≤p.put.length:=by omega
 have hn2:n≤n2:=by omega
 have d1:(List.map PT.byte p.put++r1).drop n=List.map PT.byte (p.put.drop n)++r1:=by
  rw[List.drop_append_of_le_length (by simpa using hn1),List.map_drop]
 have d2:(List.replicate n2 (unit v)++r2).drop n=List.replicate (n2-n) (unit v)++r2:=by
  rw[List.drop_append_of_le_length (by simpa using hn2),List.drop_replicate]
 have key:cm (List.map PT.byte p.put++r1) (List.replicate n2 (unit v)++r2)=(if v=true then [] else (p.put.take n).map PT.byte)++cm (List.map PT.byte (p.put.drop n)++r1) (List.replicate (n2-n) (unit v)++r2):=by
  have s1:List.map PT.byte p.put++r1=(p.put.take n).map PT.byte++(List.map PT.byte (p.put.drop n)++r1):=by
   rw[← Wah,← Wbo,Wbh]
  have s2:List.replicate n2 (unit v)++r2=List.replicate (p.put.take n).length (unit v)++(List.replicate (n2-n) (unit v)++r2):=by
   rw[← Wah,List.replicate_append_replicate,Wbb,show min n p.put.length+(n2-n)=n2 from by omega]
  rw[s1,s2,Qdo]
 refine⟨n,by omega,by omega,hn1,by simp;omega,by simp;omega,?_⟩;rw[d1,d2,key];refine⟨?_,?_,?_⟩
 ·simp only[Xj,Qb9,QS,ZT,War] at hw ⊢;omega
 ·intro hk;refine⟨PT.arg_put (fun e=>by have:=congrArg List.length e;rw[Wbb,List.length_nil] at this;omega),?_⟩;rw[Y9,Z4,Wah,if_neg (fun e=>hv.1 e hk)]
 ·intro hk;rw[if_pos (hv.2 hk)];rfl
theorem Qms (hx:Nx x p s)(hy:Nx y q t)(hp:p.put=[])(hd:¬ 0<p.drop)(hq:q.put=[])(hw:Q6 x=Qj y)(hs:s=true∨t=true) :
  ∃ n:Nat,0<n∧min p.keep (q.keep+q.drop)=n∧n≤x.length∧n≤y.length∧Q6 (x.drop n)=Qj (y.drop n) ∧
   (0<q.keep→Qf (out++[⟨n,0,[]⟩])++cm (x.drop n) (y.drop n)=Qf out++cm x y) ∧
   (¬ 0<q.keep→Qf (out++[⟨0,n,[]⟩])++cm (x.drop n) (y.drop n)=Qf out++cm x y):=by
 have hkeep:s=true→∃ (n:Nat) (r:List PT),0<n∧p.keep=n∧x=List.replicate n PT.k1++r:=by
  intro h;rcases hx with ⟨_,ha,r,rfl⟩ | ⟨h',_⟩
  ·rcases ha.cases with ⟨b,hb,rfl⟩ | ⟨n,hn,rfl⟩ | ⟨n,hn,rfl⟩
   ·exact absurd hp hb
   ·exact absurd hd (by simp;omega)
   ·exact⟨n,r,hn,rfl,by rw[ZJ]⟩
  ·subst h;exact absurd h' (by simp)
 have both:s=true∧t=true:=by
  rcases hs with h | h
  ·refine⟨h,?_⟩;obtain⟨n,r,hn,_,rfl⟩:=hkeep h;rw[Xj,Qab] at hw;refine hy.some_of ?_
   cases y with
   | nil=>simp[Qj] at hw;omega
   | cons=>simp
  ·refine⟨?_,h⟩;obtain⟨n,v,r,hn,_,rfl,_⟩:=hy.noput hq h;rw[QS,ZT] at hw;refine hx.some_of ?_
   cases x with
   | nil=>simp[Q6] at hw;omega
   | cons=>simp
 obtain⟨n1,r1,h1,e1,rfl⟩:=hkeep both.1;obtain⟨n2,v,r2,h2,e2,rfl,hv,_⟩:=hy.noput hq both.2;rw[Xj,Qab,QS,ZT] at hw;obtain⟨n,hn⟩:∃ n,n=min n1 n2:=⟨_,rfl⟩;have hn1:n≤n1:=by omega
 have hn2:n≤n2:=by omega
 have d1:∀ (m:Nat) (w:PT) (r:List PT),n≤m→(List.replicate m w++r).drop n=List.replicate (m-n) w++r:=fun m w r h=>by
  rw[List.drop_append_of_le_length (by simpa using h),List.drop_replicate]
 have s1:∀ (m:Nat) (w:PT) (r:List PT),n≤m→List.replicate m w++r=List.replicate n w++(List.replicate (m-n) w++r):=fun m w r h=>by
  rw[← Wah,List.replicate_append_replicate,show n+(m-n)=m from by omega]
 have key:cm (List.replicate n1 PT.k1++r1) (List.replicate n2 (unit v)++r2)=List.replicate n (unit v)++cm (List.replicate (n1-n) PT.k1++r1) (List.replicate (n2-n) (unit v)++r2):=by
  rw[s1 n1 PT.k1 r1 hn1,s1 n2 (unit v) r2 hn2,Qdp]
 refine⟨n,by omega,by omega,by simp;omega,by simp;omega,?_⟩;rw[d1 _ _ _ hn1,d1 _ _ _ hn2,key];refine⟨?_,?_,?_⟩
 ·simp only[Xj,Qab,QS,ZT];omega
 ·intro hk
  have:v=false:=by
   cases v with
   | false=>rfl
   | true=>exact absurd hk (hv.1 rfl)
  subst this;rw[Y9,ZJ,Wah];rfl
 ·intro hk
  have:v=true:=hv.2 hk
  subst this;rw[Y9,ZR,Wah];rfl
end
end
section
open Go.RowKit
attribute [local go_sem ↓] Go.wp_at_zero Go.wp_at_succ
theorem Qan (a:Int):-9223372036854775808≤wrap64 a∧wrap64 a≤9223372036854775807:=by unfold wrap64;omega
end
section
open Go.RowKit
theorem Qah {l:List PT}{m:Int}(h:chk l m=0):∀ p∈l,p.Good:=by
 unfold chk at h
 split at h
 ·rename_i h1
  clear h
  induction l with
  | nil=>intro p hp;simp at hp
  | cons p l ih =>
   unfold e1 at h1
   split at h1
   ·exact absurd h1 (by decide)
   ·rename_i ha
    split at h1
    ·exact absurd h1 (by decide)
    ·rename_i hf
     intro q hq;rcases Wbk.1 hq with rfl | hq
     ·exact⟨Classical.not_not.1 ha,Classical.not_not.1 hf⟩
     ·exact ih h1 q hq
 ·rename_i h1;exact absurd h h1
end
end Go.Proofs.YtdgdajnbkfmijaaGreatDoor
