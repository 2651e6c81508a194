/- Texts of the proof. -/
import Derived.Test.YtckkgdmkfbkaoaaGreatDoorM7
import Derived.Test.YtckkgdmkfbkaoaaGreatDoorM24
namespace Go.Proofs.YtckkgdmkfbkaoaaGreatDoor
set_option maxRecDepth 100000
set_option maxHeartbeats 32000000
set_option linter.all false
section
open Go.RowKit
def PT.some (p:PT):Nat:=(if p.keep=0 then 0 else 1)+(if p.drop=0 then 0 else 1)+(if p.put=[] then 0 else 1)
def PT.arg (p:PT):Prop:=p.some=1∧0≤p.keep∧0≤p.drop
instance (p:PT):Decidable p.arg:=by unfold PT.arg;infer_instance
def PT.form (p:PT):Prop:=∃ rs,U.Sp p.put rs []
open Classical in
noncomputable def e1:List PT→Int
 | []=>0
 | p :: l=>if ¬ p.arg then 1 else if ¬ p.form then 3 else e1 l
def e2 (n:Int):List PT→Int
 | []=>if n=0 then 0 else 2
 | p :: l=>if n<p.keep∨n<p.drop then 2 else e2 (n-p.keep-p.drop) l
noncomputable def chk (l:List PT)(n:Int):Int:=if e1 l=0 then e2 n l else e1 l
def PT.Good (p:PT):Prop:=p.arg∧p.form
theorem Qh6 {l:List PT}{k:Nat}(hk:k<l.length)(h:∀ p∈l.take k,p.Good):e1 l=e1 (l.drop k):=by
 induction k generalizing l with
 | zero=>rfl
 | succ k ih =>
  cases l with
  | nil=>simp at hk
  | cons p l =>
   have hp:p.Good:=h p (by simp);have h2:=ih (l:=l) (by simpa using hk) (fun q hq=>h q (by simp[hq]));simp only[e1,List.drop_succ_cons];rw[if_neg (fun h=>h hp.1),if_neg (fun h=>h hp.2),h2]
theorem Qsx {l:List PT}{k:Nat}(hk:k<l.length)(h:∀ p∈l.take k,p.Good)(ha:¬ l[k].arg):e1 l=1:=by
 rw[Qh6 hk h,Wbl hk,e1,if_pos ha]
theorem Qsy {l:List PT}{k:Nat}(hk:k<l.length)(h:∀ p∈l.take k,p.Good)(ha:l[k].arg)(hf:¬ l[k].form):e1 l=3:=by
 rw[Qh6 hk h,Wbl hk,e1,if_neg (fun h=>h ha),if_pos hf]
theorem Qdi {l:List PT}(h:∀ p∈l,p.Good):e1 l=0:=by
 induction l with
 | nil=>rfl
 | cons p l ih =>
  have hp:p.Good:=h p (by simp);rw[e1,if_neg (fun h=>h hp.1),if_neg (fun h=>h hp.2),ih (fun q hq=>h q (by simp[hq]))]
section
attribute [local go_sem] Qz
end
end
section
structure NS where
 out:List PT
 put:U.Bs
 drop:Int
def Qy (put:U.Bs)(drop:Int):List PT:=(if put=[] then [] else [⟨0,0,put⟩])++(if 0<drop then [⟨0,drop,[]⟩] else [])
def NS.all (s:NS):List PT:=s.out++Qy s.put s.drop
def Yp (k:Int):List PT→List PT
 | []=>[]
 | [p]=>[⟨p.keep+k,p.drop,p.put⟩]
 | p :: q :: l=>p :: Yp k (q :: l)
def NS.kept (s:NS)(p:PT):NS :=
 if s.put≠[]∨0<s.drop∨s.out=[] then ⟨s.all++[p],[],0⟩ else ⟨Yp p.keep s.out,[],0⟩
def NS.step (s:NS)(p:PT):NS :=
 if p.put≠[] then ⟨s.out,s.put++p.put,s.drop⟩
 else if 0<p.drop then ⟨s.out,s.put,s.drop+p.drop⟩
 else if 0<p.keep then s.kept p
 else s
def NS.zero:NS:=⟨[],[],0⟩
def Qq (s:NS)(l:List PT):NS:=l.foldl NS.step s
def norm (l:List PT):List PT:=(Qq .zero l).all
def PT.byte (c:UInt8):PT:=⟨0,0,[c]⟩
def PT.d1:PT:=⟨0,1,[]⟩
def PT.k1:PT:=⟨1,0,[]⟩
def PT.exp (p:PT):List PT :=
 if p.put≠[] then p.put.map PT.byte else if 0<p.drop then List.replicate p.drop.toNat PT.d1 else List.replicate p.keep.toNat PT.k1
def Qi (l:List PT):List PT:=l.flatMap PT.exp
theorem expand_nil:Qi []=[]:=rfl
theorem XA (p:PT)(l:List PT):Qi (p :: l)=p.exp++Qi l:=by simp[Qi]
theorem Qpr (a b:List PT):Qi (a++b)=Qi a++Qi b:=by simp[Qi]
theorem Qcv (s:NS):Qq s []=s:=rfl
theorem XQ (s:NS)(p:PT)(l:List PT):Qq s (p :: l)=Qq (s.step p) l:=rfl
theorem XB (s:NS)(a b:List PT):Qq s (a++b)=Qq (Qq s a) b:=by unfold Qq;rw[List.foldl_append]
theorem Ye {b:U.Bs}:(⟨0,0,b⟩:PT).exp=b.map PT.byte:=by
 unfold PT.exp
 by_cases h:b=[]
 ·subst h;simp
 ·simp[h]
theorem Qgr (s:NS)(b:U.Bs):Qq s (b.map PT.byte)=⟨s.out,s.put++b,s.drop⟩:=by
 induction b generalizing s with
 | nil=>simp[Qq]
 | cons c b ih =>
  rw[List.map_cons,XQ,ih];simp[NS.step,PT.byte]
theorem Qgs (s:NS)(k:Nat):Qq s (List.replicate k PT.d1)=⟨s.out,s.put,s.drop+k⟩:=by
 induction k generalizing s with
 | zero=>simp[Qq]
 | succ k ih =>
  rw[Wat,XQ,ih];simp only[NS.step,PT.d1];simp;omega
theorem Qps {k:Int}{l:List PT}(h:l≠[]):Yp k l≠[]:=by
 match l,h with
 | [_],_=>simp[Yp]
 | _ :: _ :: _,_=>simp[Yp]
theorem Xn (k:Int)(l:List PT)(p:PT):Yp k (l++[p])=l++[⟨p.keep+k,p.drop,p.put⟩]:=by
 induction l with
 | nil=>rfl
 | cons q l ih =>
  cases l with
  | nil=>rfl
  | cons r l=>simp only[Wap,Yp] at ih ⊢;rw[ih]
theorem Qpt (k:Int)(l:List PT):(Yp k l).length=l.length:=by
 rcases List.eq_nil_or_concat l with rfl | ⟨a,b,rfl⟩
 ·rfl
 ·rw[List.concat_eq_append,Xn];simp
theorem Qpu (a b:Int)(l:List PT):Yp a (Yp b l)=Yp (b+a) l:=by
 rcases List.eq_nil_or_concat l with rfl | ⟨x,p,rfl⟩
 ·rfl
 ·rw[List.concat_eq_append,Xn,Xn,Xn];simp;omega
theorem Qgt (s:NS):s.step PT.k1=s.kept PT.k1:=by simp[NS.step,PT.k1]
theorem Qpv (s:NS)(k:Int):(s.kept ⟨k,0,[]⟩).kept PT.k1=s.kept ⟨k+1,0,[]⟩:=by
 unfold NS.kept
 by_cases h:s.put≠[]∨0<s.drop∨s.out=[]
 ·rw[if_pos h,if_pos h,if_neg (by simp),Xn];rfl
 ·rw[if_neg h,if_neg h];have h3:s.out≠[]:=fun e=>h (.inr (.inr e))
  rw[if_neg (by simp[Qps h3]),Qpu];rfl
theorem Qgu (s:NS)(k:Nat):Qq s (List.replicate (k+1) PT.k1)=s.kept ⟨(k:Int)+1,0,[]⟩:=by
 induction k with
 | zero=>simp only[Wat,List.replicate_zero,XQ,Qcv,Qgt];rfl
 | succ k ih =>
  rw[List.replicate_succ',XB,ih,XQ,Qcv,Qgt,Qpv];simp
theorem Qpw (s:NS){p:PT}(h:p.arg):s.step p=Qq s p.exp:=by
 obtain⟨k,d,b⟩:=p;obtain⟨h1,h2,h3⟩:=h;dsimp only at h2 h3;unfold PT.exp NS.step;dsimp only
 by_cases hb:b≠[]
 ·rw[if_pos hb,if_pos hb,Qgr]
 ·rw[if_neg hb,if_neg hb]
  by_cases hd:0<d
  ·rw[if_pos hd,if_pos hd,Qgs,Int.toNat_of_nonneg h3]
  ·rw[if_neg hd,if_neg hd];obtain rfl:d=0:=by omega
   obtain rfl:b=[]:=by simpa using hb
   by_cases hk:0<k
   ·rw[if_pos hk];obtain⟨m,rfl⟩:∃ m:Nat,k=(m:Int)+1:=⟨(k-1).toNat,by omega⟩;rw[show ((m:Int)+1).toNat=m+1 from by omega,Qgu]
   ·rw[if_neg hk];obtain rfl:k=0:=by omega
    rfl
theorem Qpx (s:NS){l:List PT}(h:∀ p∈l,p.arg):Qq s l=Qq s (Qi l):=by
 induction l generalizing s with
 | nil=>rfl
 | cons p l ih=>rw[XQ,XA,XB,← Qpw s (h p (by simp)),ih _ (fun q hq=>h q (by simp[hq]))]
structure SS where
 l:List (U.Bs × Bool)
 e:U.Bs
def unit (x:Bool):PT:=if x then PT.d1 else PT.k1
def keepP (k:Int):List PT:=if 0<k then [⟨k,0,[]⟩] else []
theorem Qw0:keepP 0=[]:=rfl
theorem PT.arg.cases {p:PT}(h:p.arg):(∃ b,b≠[]∧p=⟨0,0,b⟩)∨(∃ n:Nat,0<n∧p=⟨0,n,[]⟩)∨(∃ n:Nat,0<n∧p=⟨n,0,[]⟩):=by
 obtain⟨k,d,b⟩:=p;obtain⟨h1,h2,h3⟩:=h;unfold PT.some at h1;dsimp only at h1 h2 h3
 by_cases hb:b=[]
 ·subst hb
  by_cases hd:d=0
  ·subst hd
   by_cases hk:k=0
   ·subst hk;simp at h1
   ·exact .inr (.inr ⟨k.toNat,by omega,by rw[Int.toNat_of_nonneg h2]⟩)
  ·by_cases hk:k=0
   ·subst hk;exact .inr (.inl ⟨d.toNat,by omega,by rw[Int.toNat_of_nonneg h3]⟩)
   ·simp[hd,hk] at h1
 ·have hk:k=0:=by
   by_cases h:k=0
   ·exact h
   ·rw[if_neg h,if_neg hb] at h1;omega
  have hd:d=0:=by
   by_cases h:d=0
   ·exact h
   ·rw[if_neg h,if_neg hb] at h1;omega
  subst hk hd;exact .inl ⟨b,hb,rfl⟩
theorem PT.arg_put {b:U.Bs}(h:b≠[]):(⟨0,0,b⟩:PT).arg:=⟨by simp[PT.some,h],Wba _,Wba _⟩
theorem PT.arg_drop {n:Int}(h:0<n):(⟨0,n,[]⟩:PT).arg:=⟨by simp[PT.some];omega,Wba _,Int.le_of_lt h⟩
theorem PT.arg_keep {n:Int}(h:0<n):(⟨n,0,[]⟩:PT).arg:=⟨by simp[PT.some];omega,Int.le_of_lt h,Wba _⟩
end
section
def Qd:List PT→Nat
 | []=>0
 | p :: l=>p.put.length+Qd l
theorem YA (a b:List PT):Qd (a++b)=Qd a+Qd b:=by
 induction a with
 | nil=>simp[Qd]
 | cons p a ih=>rw[Wap,Qd,Qd,ih];omega
theorem Qaf (l:List PT)(k:Nat):Qd (l.take k)≤Qd l:=by
 conv=>rhs;rw[← Wbh k l]
 rw[YA];omega
theorem ZJ {l:List PT}(h:∀ p∈l,p.arg):0≤was l:=by
 induction l with
 | nil=>simp[was]
 | cons p l ih =>
  have h1:=h p (by simp);have h2:=ih (fun q hq=>h q (by simp[hq]));obtain⟨_,h3,h4⟩:=h1;rw[was];omega
theorem Qag {l:List PT}(h:∀ p∈l,p.arg)(k:Nat):was (l.take k)≤was l:=by
 conv=>rhs;rw[← Wbh k l]
 rw[Yd]
 have:=ZJ (l:=l.drop k) (fun p hp=>h p (List.mem_of_mem_drop hp))
 omega
theorem Qah (b:U.Bs)(d:Int):(Qy b d).length≤2:=by
 unfold Qy
 split<;>split<;>simp
theorem Qpy {s:NS}{p:PT}(h:p.arg)(hd:0≤s.drop):(s.step p).out.length≤s.out.length+3∧(s.step p).put.length≤s.put.length+p.put.length∧0≤(s.step p).drop∧(s.step p).drop≤s.drop+p.drop:=by
 obtain⟨h1,h2,h3⟩:=h;unfold NS.step
 split
 ·exact⟨by dsimp only;omega,by simp,hd,by dsimp only;omega⟩
 ·split
  ·exact⟨by dsimp only;omega,by dsimp only;omega,by dsimp only;omega,by dsimp only;omega⟩
  ·split
   ·unfold NS.kept
    split
    ·have:=Qah s.put s.drop
     exact⟨by simp[NS.all];omega,by simp,by simp,by dsimp only;omega⟩
    ·exact⟨by dsimp only;rw[Qpt];omega,by simp,by simp,by dsimp only;omega⟩
   ·exact⟨by omega,by omega,hd,by omega⟩
theorem Qpz {l:List PT}(h:∀ p∈l,p.arg)(k:Nat):(Qq .zero (l.take k)).out.length≤3*k∧(Qq .zero (l.take k)).put.length≤Qd l∧0≤(Qq .zero (l.take k)).drop∧(Qq .zero (l.take k)).drop≤was l:=by
 suffices hs:∀ m (s:List PT),s.length=m→(∀ p∈s,p.arg)→(Qq .zero s).out.length≤3*m∧(Qq .zero s).put.length≤Qd s∧0≤(Qq .zero s).drop∧(Qq .zero s).drop≤was s by
  obtain⟨a,b,c,d⟩:=hs _ _ rfl (fun p hp=>h p (List.mem_of_mem_take hp));rw[Wbb] at a
  exact⟨by omega,Wbf b (Qaf l k),c,Int.le_trans d (Qag h k)⟩
 intro m
 induction m with
 | zero =>
  intro s hs _;obtain rfl:=List.eq_nil_of_length_eq_zero hs
  exact⟨by simp[Qq,NS.zero],by simp[Qq,NS.zero],by simp[Qq,NS.zero],by simp[Qq,NS.zero,was]⟩
 | succ m ih =>
  intro s hs ha;have hne:s≠[]:=by intro e;subst e;simp at hs
  have e:=List.dropLast_concat_getLast hne;generalize s.getLast hne=p at e;generalize s.dropLast=t at e;subst e;obtain⟨a,b,c,d⟩:=ih t (by simpa using hs) (fun q hq=>ha q (by simp[hq]));obtain⟨a2,b2,c2,d2⟩:=Qpy (s:=Qq .zero t) (ha p (by simp)) c;have hk:=(ha p (by simp)).2.1;have e2:Qq .zero (t++[p])=(Qq .zero t).step p:=by rw[XB];rfl
  rw[e2,YA,Yd];simp only[Qd,was]
  exact⟨by omega,by omega,c2,by omega⟩
theorem Qp0 {l:List PT}{k:Nat}(h:k<l.length):Qq .zero (l.take (k+1))=(Qq .zero (l.take k)).step l[k]:=by
 rw[Wag h,XB];rfl
structure NOk (s:NS):Prop where
 d:0≤s.drop
 a:∀ p∈s.out,p.arg
 e:s.out=[]∨∃ (i:List PT) (k:Int),0<k∧s.out=i++[⟨k,0,[]⟩]
theorem Qgv (b:U.Bs)(d:Int):∀ p∈Qy b d,p.arg:=by
 intro p hp;unfold Qy at hp;rw[List.mem_append] at hp;rcases hp with hp | hp
 ·split at hp
  ·simp at hp
  ·rename_i h
   obtain rfl:=Wbd.1 hp;exact PT.arg_put h
 ·split at hp
  ·rename_i h
   obtain rfl:=Wbd.1 hp;exact PT.arg_drop h
  ·simp at hp
theorem Qgw (b:U.Bs){d:Int}(h:0≤d):was (Qy b d)=d∧Qd (Qy b d)=b.length:=by
 unfold Qy
 constructor
 ·rw[Yd]
  split<;>split<;>simp[was]<;>omega
 ·rw[YA]
  split<;>split<;>simp_all [Qd]
theorem step_ok {s:NS}{p:PT}(h:NOk s)(ha:p.arg):NOk (s.step p)∧was (s.step p).out+(s.step p).drop=was s.out+s.drop+(p.keep+p.drop)∧Qd (s.step p).out+(s.step p).put.length=Qd s.out+s.put.length+p.put.length:=by
 obtain⟨h1,h2,h3⟩:=h;rcases ha.cases with ⟨q,hq,rfl⟩ | ⟨m,hm,rfl⟩ | ⟨m,hm,rfl⟩
 ·have e:s.step ⟨0,0,q⟩=⟨s.out,s.put++q,s.drop⟩:=by simp[NS.step,hq]
  rw[e];exact⟨⟨h1,h2,h3⟩,by dsimp only;omega,by simp;omega⟩
 ·have e:s.step ⟨0,m,[]⟩=⟨s.out,s.put,s.drop+m⟩:=by simp[NS.step,hm]
  rw[e];exact⟨⟨by dsimp only;omega,h2,h3⟩,by dsimp only;omega,by simp⟩
 ·have e:s.step ⟨m,0,[]⟩=s.kept ⟨m,0,[]⟩:=by
   simp only[NS.step,ne_eq,not_true_eq_false,if_false,Int.lt_irrefl];rw[if_pos (by omega)]
  rw[e];unfold NS.kept
  split
  ·rename_i hc
   obtain⟨f1,f2⟩:=Qgw s.put h1;refine⟨⟨Wba _,?_,.inr ⟨s.all,m,by omega,rfl⟩⟩,?_,?_⟩
   ·intro p hp;dsimp only[NS.all] at hp;rw[List.mem_append,List.mem_append] at hp;rcases hp with (hp | hp) | hp
    ·exact h2 p hp
    ·exact Qgv _ _ p hp
    ·obtain rfl:=Wbd.1 hp;exact PT.arg_keep (by omega)
   ·dsimp only[NS.all];rw[Yd,Yd,f1];simp[was]
   ·dsimp only[NS.all];rw[YA,YA,f2];simp[Qd]
  ·rename_i hc
   have e1:s.put=[]:=by
    by_cases e:s.put=[]
    ·exact e
    ·exact absurd (.inl e) hc
   have e2:s.drop=0:=by
    by_cases e:0<s.drop
    ·exact absurd (.inr (.inl e)) hc
    ·omega
   rcases h3 with h3 | ⟨i,k,hk,h3⟩
   ·exact absurd (.inr (.inr h3)) hc
   ·rw[h3,Xn,e1,e2];rw[h3] at h2;refine⟨⟨Wba _,?_,.inr ⟨i,k+m,by omega,rfl⟩⟩,?_,?_⟩
    ·intro p hp;dsimp only at hp;rw[List.mem_append] at hp;rcases hp with hp | hp
     ·exact h2 p (by simp[hp])
     ·obtain rfl:=Wbd.1 hp;exact PT.arg_keep (by omega)
    ·dsimp only;rw[Yd,Yd];simp[was];omega
    ·dsimp only;rw[YA,YA];simp[Qd]
theorem NOk.zero:NOk .zero:=⟨Wba _,fun p hp=>by simp[NS.zero] at hp,.inl rfl⟩
theorem Qgx {l:List PT}(h:∀ p∈l,p.arg)(s:NS)(hs:NOk s):NOk (Qq s l)∧was (Qq s l).out+(Qq s l).drop=was s.out+s.drop+was l∧Qd (Qq s l).out+(Qq s l).put.length=Qd s.out+s.put.length+Qd l:=by
 induction l generalizing s with
 | nil=>exact⟨hs,by simp[Qq,was],by simp[Qq,Qd]⟩
 | cons p l ih =>
  obtain⟨a,b,c⟩:=step_ok hs (h p (by simp));obtain⟨a2,b2,c2⟩:=ih (fun q hq=>h q (by simp[hq])) _ a;rw[XQ,was,Qd]
  exact⟨a2,by omega,by omega⟩
theorem Qgy {l:List PT}(h:∀ p∈l,p.arg):(∀ p∈norm l,p.arg)∧was (norm l)=was l∧Qd (norm l)=Qd l:=by
 obtain⟨a,b,c⟩:=Qgx h .zero NOk.zero;unfold norm NS.all;obtain⟨f1,f2⟩:=Qgw (Qq .zero l).put a.d;refine⟨?_,?_,?_⟩
 ·intro p hp;rw[List.mem_append] at hp;rcases hp with hp | hp
  ·exact a.a p hp
  ·exact Qgv _ _ p hp
 ·rw[Yd,f1,b];simp[NS.zero,was]
 ·rw[YA,f2,c];simp[NS.zero,Qd]
end
section
def ZA (p:PT):Bool:=p.put≠[]
def tr (first:Bool):List PT→List PT→List PT
 | p :: x,q :: y =>
  if ZA p=true∧(first=true∨ZA q=false) then p :: tr first x (q :: y)
  else if ZA q=true then PT.k1 :: tr first (p :: x) y
  else if q.drop=0 then p :: tr first x y else tr first x y
 | p :: x,[]=>if ZA p=true then p :: tr first x [] else []
 | [],q :: y=>if ZA q=true then PT.k1 :: tr first [] y else []
 | [],[]=>[]
termination_by x y=>x.length+y.length
theorem Yk (c:UInt8):ZA (PT.byte c)=true:=rfl
theorem Qv6:ZA PT.d1=false:=rfl
theorem Qjl:ZA PT.k1=false:=rfl
theorem Ja (x:Bool):ZA (unit x)=false:=by cases x<;>rfl
def hput:List PT→Bool
 | []=>false
 | p :: _=>ZA p
theorem JD {first:Bool}(b:U.Bs)(x y:List PT)(h:first=true∨hput y=false):tr first (b.map PT.byte++x) y=b.map PT.byte++tr first x y:=by
 induction b with
 | nil=>rfl
 | cons c b ih =>
  simp only[List.map_cons,Wap]
  cases y with
  | nil=>rw[tr,if_pos (Yk c),ih]
  | cons q y=>rw[tr,if_pos ⟨Yk c,h⟩,ih]
theorem JE {first:Bool}(b:U.Bs)(x y:List PT)(h:first=false∨hput x=false):tr first x (b.map PT.byte++y)=List.replicate b.length PT.k1++tr first x y:=by
 induction b with
 | nil=>rfl
 | cons c b ih =>
  simp only[List.map_cons,Wap,Wan,Wat]
  cases x with
  | nil=>rw[tr,if_pos (Yk c),ih]
  | cons p x =>
   rw[tr,if_neg,if_pos (Yk c),ih];rintro⟨h1,h2⟩;rw[Yk] at h2;rcases h with h | h
   ·subst h;simp at h2
   ·have h':ZA p=false:=h;rw[h'] at h1;exact absurd h1 (by simp)
theorem JF {first:Bool}(n:Nat)(u v:Bool)(x y:List PT):tr first (List.replicate n (unit u)++x) (List.replicate n (unit v)++y)=(if v=true then [] else List.replicate n (unit u))++tr first x y:=by
 induction n with
 | zero=>simp
 | succ n ih =>
  simp only[Wat,Wap];rw[tr,if_neg (by simp[Ja]),if_neg (by simp[Ja]),ih]
  cases v<;>simp[unit,PT.d1,PT.k1]
def cm:List PT→List PT→List PT
 | p :: x,q :: y =>
  if 0<p.drop then p :: cm x (q :: y)
  else if ZA q=true then q :: cm (p :: x) y
  else if ZA p=true then (if 0<q.keep then [p] else [])++cm x y
  else (if 0<q.keep then [PT.k1] else [PT.d1])++cm x y
 | p :: x,[]=>if 0<p.drop then p :: cm x [] else []
 | [],q :: y=>if ZA q=true then q :: cm [] y else []
 | [],[]=>[]
termination_by x y=>x.length+y.length
def hdrop:List PT→Prop
 | []=>False
 | p :: _=>0<p.drop
theorem Qjm (n:Nat)(x y:List PT):cm (List.replicate n PT.d1++x) y=List.replicate n PT.d1++cm x y:=by
 induction n with
 | zero=>rfl
 | succ n ih =>
  simp only[Wat,Wap]
  cases y with
  | nil=>rw[cm,if_pos (by decide),ih]
  | cons q y=>rw[cm,if_pos (by decide),ih]
theorem Qbd (b:U.Bs)(x y:List PT)(h:¬ hdrop x):cm x (b.map PT.byte++y)=b.map PT.byte++cm x y:=by
 induction b with
 | nil=>rfl
 | cons c b ih =>
  simp only[List.map_cons,Wap]
  cases x with
  | nil=>rw[cm,if_pos (Yk c),ih]
  | cons p x=>rw[cm,if_neg (show ¬ 0<p.drop from h),if_pos (Yk c),ih]
theorem Qd1 (b:U.Bs)(v:Bool)(x y:List PT):cm (b.map PT.byte++x) (List.replicate b.length (unit v)++y)=(if v=true then [] else b.map PT.byte)++cm x y:=by
 induction b with
 | nil=>cases v<;>rfl
 | cons c b ih =>
  simp only[List.map_cons,Wap,Wan,Wat];rw[cm,if_neg (by simp[PT.byte]),if_neg (by simp[Ja]),if_pos (Yk c),ih]
  cases v<;>simp[unit,PT.k1,PT.d1]
theorem Qd2 (n:Nat)(v:Bool)(x y:List PT):cm (List.replicate n PT.k1++x) (List.replicate n (unit v)++y)=List.replicate n (unit v)++cm x y:=by
 induction n with
 | zero=>rfl
 | succ n ih =>
  simp only[Wat,Wap];rw[cm,if_neg (by decide),if_neg (by simp[Ja]),if_neg (by simp[Qjl]),ih]
  cases v<;>simp[unit,PT.k1,PT.d1]
def Qw:List PT→Nat
 | []=>0
 | p :: l=>(if ZA p=true then 0 else 1)+Qw l
def QH:List PT→Nat
 | []=>0
 | p :: l=>(if 0<p.drop then 0 else 1)+QH l
end
section
theorem Ym (n:Nat):(⟨0,n,[]⟩:PT).exp=List.replicate n PT.d1:=by
 unfold PT.exp;rw[if_neg (by simp)];dsimp only
 by_cases h:0<(n:Int)
 ·rw[if_pos h];simp
 ·rw[if_neg h];obtain rfl:n=0:=by omega
  rfl
theorem Yn (n:Nat):(⟨n,0,[]⟩:PT).exp=List.replicate n PT.k1:=by
 unfold PT.exp;rw[if_neg (by simp)];dsimp only;rw[if_neg (by decide)];simp
def PT.size (p:PT):Nat:=p.exp.length
theorem size_put (b:U.Bs):(⟨0,0,b⟩:PT).size=b.length:=by rw[PT.size,Ye];simp
theorem XL (n:Nat):(⟨0,n,[]⟩:PT).size=n:=by rw[PT.size,Ym];simp
theorem XM (n:Nat):(⟨n,0,[]⟩:PT).size=n:=by rw[PT.size,Yn];simp
def PT.left (p:PT)(n:Nat):PT:=if p.put≠[] then ⟨0,0,p.put.drop n⟩ else if 0<p.keep then ⟨p.keep-n,0,[]⟩ else ⟨0,p.drop-n,[]⟩
theorem PT.left_exp {p:PT}(h:p.arg){n:Nat}(hn:n≤p.size):(p.left n).exp=p.exp.drop n:=by
 rcases h.cases with ⟨b,hb,rfl⟩ | ⟨m,hm,rfl⟩ | ⟨m,hm,rfl⟩
 ·simp only[PT.left,if_pos hb,ne_eq];rw[Ye,Ye,List.map_drop]
 ·rw[XL] at hn;simp only[PT.left,ne_eq,not_true_eq_false,if_false,Int.lt_irrefl];rw[show ((m:Int)-n)=((m-n:Nat):Int) from by omega,Ym,Ym,List.drop_replicate]
 ·rw[XM] at hn;simp only[PT.left,ne_eq,not_true_eq_false,if_false];rw[if_pos (by omega),show ((m:Int)-n)=((m-n:Nat):Int) from by omega,Yn,Yn,List.drop_replicate]
theorem PT.left_arg {p:PT}(h:p.arg){n:Nat}(hn:n<p.size):(p.left n).arg:=by
 rcases h.cases with ⟨b,hb,rfl⟩ | ⟨m,hm,rfl⟩ | ⟨m,hm,rfl⟩
 ·rw[size_put] at hn;simp only[PT.left,if_pos hb,ne_eq];exact PT.arg_put (fun e=>by have:=congrArg List.length e;simp at this;omega)
 ·rw[XL] at hn;simp only[PT.left,ne_eq,not_true_eq_false,if_false,Int.lt_irrefl];exact PT.arg_drop (by omega)
 ·rw[XM] at hn;simp only[PT.left,ne_eq,not_true_eq_false,if_false];rw[if_pos (by omega)];exact PT.arg_keep (by omega)
def Tok (l:List PT)(n:Nat):Prop:=(∀ p∈l,p.arg)∧match l with | []=>n=0 | p :: _=>n≤p.size
def tape (l:List PT)(n:Nat):List PT:=(Qi l).drop n
def Nx (u:List PT)(p:PT)(some:Bool):Prop:=(some=true∧p.arg∧∃ r,u=p.exp++r)∨(some=false∧p=⟨0,0,[]⟩∧u=[])
theorem Qnv {p:PT}{l:List PT}{n:Nat}(h:n=p.size):tape (p :: l) n=tape l 0:=by
 unfold tape;rw[XA,h,PT.size,List.drop_left,List.drop_zero]
theorem Qnw {p:PT}{l:List PT}{n:Nat}(h:n≤p.size)(ha:p.arg):tape (p :: l) n=(p.left n).exp++Qi l:=by
 unfold tape;rw[XA,List.drop_append_of_le_length h,PT.left_exp ha h]
theorem Qf0 {l:List PT}{n m:Nat}:tape l (n+m)=(tape l n).drop m:=by unfold tape;rw[List.drop_drop]
theorem Nx.hput {u:List PT}{p:PT}{s:Bool}(h:Nx u p s):hput u=decide (p.put≠[]):=by
 rcases h with ⟨_,ha,r,rfl⟩ | ⟨_,rfl,rfl⟩
 ·rcases ha.cases with ⟨b,hb,rfl⟩ | ⟨n,hn,rfl⟩ | ⟨n,hn,rfl⟩
  ·rw[Ye]
   match b,hb with
   | c :: b,_=>simp[Go.Proofs.YtckkgdmkfbkaoaaGreatDoor.hput,Yk]
  ·rw[Ym];obtain⟨m,rfl⟩:∃ m,n=m+1:=⟨n-1,by omega⟩;simp[Wat,Go.Proofs.YtckkgdmkfbkaoaaGreatDoor.hput,Qv6]
  ·rw[Yn];obtain⟨m,rfl⟩:∃ m,n=m+1:=⟨n-1,by omega⟩;simp[Wat,Go.Proofs.YtckkgdmkfbkaoaaGreatDoor.hput,Qjl]
 ·simp[Go.Proofs.YtckkgdmkfbkaoaaGreatDoor.hput]
theorem YU (l:List PT)(p:PT):Qi (l++[p])=Qi l++p.exp:=by rw[Qpr];simp[Qi]
section
variable {first:Bool}{x y out:List PT}{p q:PT}{s t:Bool}
theorem Qci (hx:Nx x p s)(hy:Nx y q t)(hp:p.put≠[])(h:first=true∨q.put=[]) :
  s=true∧p.arg∧Qi (out++[p])++tr first (x.drop p.put.length) y=Qi out++tr first x y∧Qw (x.drop p.put.length)=Qw x∧(x.drop p.put.length).length+p.put.length=x.length:=by
 rcases hx with ⟨rfl,ha,r,rfl⟩ | ⟨_,rfl,rfl⟩
 ·refine⟨rfl,ha,?_⟩;rcases ha.cases with ⟨b,hb,rfl⟩ | ⟨n,hn,rfl⟩ | ⟨n,hn,rfl⟩
  ·have e:(List.map PT.byte b++r).drop b.length=r:=by
    have:=List.drop_left (l₁:=List.map PT.byte b) (l₂:=r)
    rwa [Wbi] at this
   rw[YU,Ye];dsimp only;rw[e,JD b r y (h.imp id fun hq=>by rw[hy.hput,hq];simp),Wah];refine⟨rfl,?_,by simp;omega⟩;clear e hb hp ha
   induction b with
   | nil=>rfl
   | cons c b ih=>simp only[List.map_cons,Wap,Qw,Yk,if_true,← ih];omega
  ·exact absurd rfl hp
  ·exact absurd rfl hp
 ·exact absurd rfl hp
theorem Qf1 (hx:Nx x p s)(hy:Nx y q t)(hq:q.put≠[])(h:first=false∨p.put=[]) :
  t=true∧(⟨q.put.length,0,[]⟩:PT).arg∧Qi (out++[⟨q.put.length,0,[]⟩])++tr first x (y.drop q.put.length)=Qi out++tr first x y∧Qw (y.drop q.put.length)=Qw y∧(y.drop q.put.length).length+q.put.length=y.length:=by
 have hl:0<q.put.length:=Wax.2 hq;rcases hy with ⟨rfl,ha,r,rfl⟩ | ⟨_,rfl,rfl⟩
 ·refine⟨rfl,PT.arg_keep (by omega),?_⟩;rcases ha.cases with ⟨b,hb,rfl⟩ | ⟨n,hn,rfl⟩ | ⟨n,hn,rfl⟩
  ·have e:(List.map PT.byte b++r).drop b.length=r:=by
    have:=List.drop_left (l₁:=List.map PT.byte b) (l₂:=r)
    rwa [Wbi] at this
   rw[YU,Yn,Ye];dsimp only;rw[e,JE b x r (h.imp id fun hq=>by rw[hx.hput,hq];simp),Wah];refine⟨rfl,?_,by simp;omega⟩;clear e hb hq ha hl
   induction b with
   | nil=>rfl
   | cons c b ih=>simp only[List.map_cons,Wap,Qw,Yk,if_true,← ih];omega
  ·exact absurd rfl hq
  ·exact absurd rfl hq
 ·exact absurd rfl hq
theorem Y6 (a b:List PT):Qw (a++b)=Qw a+Qw b:=by
 induction a with
 | nil=>simp[Qw]
 | cons p a ih=>rw[Wap,Qw,Qw,ih];omega
theorem X6 (a b:List PT):QH (a++b)=QH a+QH b:=by
 induction a with
 | nil=>simp[QH]
 | cons p a ih=>rw[Wap,QH,QH,ih];omega
theorem Y7 (n:Nat)(v:Bool):Qw (List.replicate n (unit v))=n:=by
 induction n with
 | zero=>rfl
 | succ n ih=>rw[Wat,Qw,if_neg (by simp[Ja]),ih];omega
theorem Nx.noput (hx:Nx x p s)(hp:p.put=[])(hs:s=true):∃ (n:Nat) (v:Bool) (r:List PT),0<n∧p.keep+p.drop=n∧x=List.replicate n (unit v)++r∧(v=true↔¬ 0<p.keep)∧p=(if v=true then ⟨0,n,[]⟩ else ⟨n,0,[]⟩):=by
 rcases hx with ⟨_,ha,r,rfl⟩ | ⟨h,_⟩
 ·rcases ha.cases with ⟨b,hb,rfl⟩ | ⟨n,hn,rfl⟩ | ⟨n,hn,rfl⟩
  ·exact absurd hp hb
  ·exact⟨n,true,r,hn,by simp,by rw[Ym];rfl,by simp,by simp⟩
  ·exact⟨n,false,r,hn,by simp,by rw[Yn];rfl,by simp;omega,by simp⟩
 ·subst hs;exact absurd h (by simp)
theorem Nx.some_of (hx:Nx x p s)(h:0<x.length):s=true:=by
 rcases hx with ⟨h,_⟩ | ⟨_,_,rfl⟩
 ·exact h
 ·simp at h
theorem Qnx (hx:Nx x p s)(hy:Nx y q t)(hp:p.put=[])(hq:q.put=[])(hw:Qw x=Qw y)(hs:s=true∨t=true) :
  ∃ n:Nat,0<n∧min (p.keep+p.drop) (q.keep+q.drop)=n∧n≤x.length∧n≤y.length∧Qw (x.drop n)=Qw (y.drop n) ∧
   (0<q.keep→0<p.keep→Qi (out++[⟨n,0,[]⟩])++tr first (x.drop n) (y.drop n)=Qi out++tr first x y) ∧
   (0<q.keep→¬ 0<p.keep→Qi (out++[⟨0,n,[]⟩])++tr first (x.drop n) (y.drop n)=Qi out++tr first x y) ∧
   (¬ 0<q.keep→Qi out++tr first (x.drop n) (y.drop n)=Qi out++tr first x y):=by
 have both:s=true∧t=true:=by
  rcases hs with h | h
  ·refine⟨h,?_⟩;obtain⟨n,v,r,hn,_,rfl,_⟩:=hx.noput hp h;rw[Y6,Y7] at hw;refine hy.some_of ?_
   cases y with
   | nil=>simp[Qw] at hw;omega
   | cons=>simp
  ·refine⟨?_,h⟩;obtain⟨n,v,r,hn,_,rfl,_⟩:=hy.noput hq h;rw[Y6,Y7] at hw;refine hx.some_of ?_
   cases x with
   | nil=>simp[Qw] at hw;omega
   | cons=>simp
 obtain⟨n1,u,r1,h1,e1,rfl,hu,_⟩:=hx.noput hp both.1;obtain⟨n2,v,r2,h2,e2,rfl,hv,_⟩:=hy.noput hq both.2;obtain⟨n,hn⟩:∃ n,n=min n1 n2:=⟨_,rfl⟩;have hn1:n≤n1:=by omega
 have hn2:n≤n2:=by omega
 have d1:∀ (m:Nat) (w:Bool) (r:List PT),n≤m→(List.replicate m (unit w)++r).drop n=List.replicate (m-n) (unit w)++r:=fun m w r h=>by
  rw[List.drop_append_of_le_length (by simpa using h),List.drop_replicate]
 have s1:∀ (m:Nat) (w:Bool) (r:List PT),n≤m→List.replicate m (unit w)++r=List.replicate n (unit w)++(List.replicate (m-n) (unit w)++r):=fun m w r h=>by
  rw[← Wah,List.replicate_append_replicate,show n+(m-n)=m from by omega]
 have key:tr first (List.replicate n1 (unit u)++r1) (List.replicate n2 (unit v)++r2)=(if v=true then [] else List.replicate n (unit u))++tr first (List.replicate (n1-n) (unit u)++r1) (List.replicate (n2-n) (unit v)++r2):=by
  rw[s1 n1 u r1 hn1,s1 n2 v r2 hn2,JF]
 refine⟨n,by omega,by omega,by simp;omega,by simp;omega,?_⟩;rw[d1 _ _ _ hn1,d1 _ _ _ hn2,key];refine⟨?_,?_,?_,?_⟩
 ·simp only[Y6,Y7] at hw ⊢;omega
 ·intro hk hk2;rw[YU,Yn,Wah,if_neg (fun e=>hv.1 e hk)]
  have:u=false:=by
   cases u with
   | false=>rfl
   | true=>exact absurd hk2 (hu.1 rfl)
  subst this;rfl
 ·intro hk hk2;rw[YU,Ym,Wah,if_neg (fun e=>hv.1 e hk)]
  have:u=true:=hu.2 hk2
  subst this;rfl
 ·intro hk;rw[if_pos (hv.2 hk)];rfl
end
section
variable {x y out:List PT}{p q:PT}{s t:Bool}
theorem Qaa (n:Nat):QH (List.replicate n PT.k1)=n:=by
 induction n with
 | zero=>rfl
 | succ n ih=>rw[Wat,QH,if_neg (by decide),ih];omega
theorem Qf2 (n:Nat):QH (List.replicate n PT.d1)=0:=by
 induction n with
 | zero=>rfl
 | succ n ih=>rw[Wat,QH,if_pos (by decide),ih]
theorem Qcj (b:U.Bs):QH (b.map PT.byte)=b.length:=by
 induction b with
 | nil=>rfl
 | cons c b ih=>simp only[List.map_cons,QH,Wan];rw[if_neg (by simp[PT.byte]),ih];omega
theorem Qf3 (b:U.Bs):Qw (b.map PT.byte)=0:=by
 induction b with
 | nil=>rfl
 | cons c b ih=>simp only[List.map_cons,Qw];rw[if_pos (Yk c),ih]
theorem Nx.hdrop (h:Nx x p s):Go.Proofs.YtckkgdmkfbkaoaaGreatDoor.hdrop x↔0<p.drop:=by
 rcases h with ⟨_,ha,r,rfl⟩ | ⟨_,rfl,rfl⟩
 ·rcases ha.cases with ⟨b,hb,rfl⟩ | ⟨n,hn,rfl⟩ | ⟨n,hn,rfl⟩
  ·rw[Ye]
   match b,hb with
   | c :: b,_=>simp[Go.Proofs.YtckkgdmkfbkaoaaGreatDoor.hdrop,PT.byte]
  ·rw[Ym];obtain⟨m,rfl⟩:∃ m,n=m+1:=⟨n-1,by omega⟩;simp[Wat,Go.Proofs.YtckkgdmkfbkaoaaGreatDoor.hdrop,PT.d1]
  ·rw[Yn];obtain⟨m,rfl⟩:∃ m,n=m+1:=⟨n-1,by omega⟩;simp[Wat,Go.Proofs.YtckkgdmkfbkaoaaGreatDoor.hdrop,PT.k1]
 ·simp[Go.Proofs.YtckkgdmkfbkaoaaGreatDoor.hdrop]
theorem Nx.isPut_ (hx:Nx x p s)(hp:p.put≠[]):s=true∧p=⟨0,0,p.put⟩∧∃ r,x=p.put.map PT.byte++r:=by
 rcases hx with ⟨rfl,ha,r,rfl⟩ | ⟨_,rfl,rfl⟩
 ·rcases ha.cases with ⟨b,hb,rfl⟩ | ⟨n,hn,rfl⟩ | ⟨n,hn,rfl⟩
  ·exact⟨rfl,rfl,r,by rw[Ye]⟩
  ·exact absurd rfl hp
  ·exact absurd rfl hp
 ·exact absurd rfl hp
theorem Qny (hx:Nx x p s)(hp:0<p.drop)(hw:QH x=Qw y) :
  ∃ n:Nat,0<n∧p=⟨0,n,[]⟩∧Qi (out++[p])++cm (x.drop n) y=Qi out++cm x y∧QH (x.drop n)=Qw y∧(x.drop n).length+n=x.length:=by
 rcases hx with ⟨rfl,ha,r,rfl⟩ | ⟨_,rfl,rfl⟩
 ·rcases ha.cases with ⟨b,hb,rfl⟩ | ⟨n,hn,rfl⟩ | ⟨n,hn,rfl⟩
  ·exact absurd hp (by simp)
  ·rw[Ym] at hw ⊢
   have e:(List.replicate n PT.d1++r).drop n=r:=by
    have:=List.drop_left (l₁:=List.replicate n PT.d1) (l₂:=r)
    rwa [List.length_replicate] at this
   refine⟨n,hn,rfl,?_,?_,by simp;omega⟩
   ·rw[e,YU,Ym,Qjm,Wah]
   ·rw[e,← hw,X6,Qf2];omega
  ·exact absurd hp (by simp)
 ·exact absurd hp (by simp)
theorem Qnz (hx:Nx x p s)(hy:Nx y q t)(hp:¬ 0<p.drop)(hq:q.put≠[])(hw:QH x=Qw y) :
  q.arg∧Qi (out++[q])++cm x (y.drop q.put.length)=Qi out++cm x y∧QH x=Qw (y.drop q.put.length)∧(y.drop q.put.length).length+q.put.length=y.length:=by
 obtain⟨_,hq2,r,rfl⟩:=hy.isPut_ hq
 have e:(List.map PT.byte q.put++r).drop q.put.length=r:=by
  have:=List.drop_left (l₁:=List.map PT.byte q.put) (l₂:=r)
  rwa [Wbi] at this
 refine⟨by rw[hq2];exact PT.arg_put hq,?_,?_,by simp;omega⟩
 ·rw[e,Qbd _ _ _ (fun h=>hp (hx.hdrop.1 h)),YU,hq2,Ye,Wah]
 ·rw[e,hw,Y6,Qf3];omega
theorem Qn0 (hx:Nx x p s)(hy:Nx y q t)(hp:p.put≠[])(hq:q.put=[])(hw:QH x=Qw y) :
  ∃ n:Nat,0<n∧min (p.put.length:Int) (q.keep+q.drop)=n∧n≤p.put.length∧n≤x.length∧n≤y.length∧QH (x.drop n)=Qw (y.drop n) ∧
   (0<q.keep→(⟨0,0,p.put.take n⟩:PT).arg∧Qi (out++[⟨0,0,p.put.take n⟩])++cm (x.drop n) (y.drop n)=Qi out++cm x y) ∧
   (¬ 0<q.keep→Qi out++cm (x.drop n) (y.drop n)=Qi out++cm x y):=by
 obtain⟨_,hp2,r1,rfl⟩:=hx.isPut_ hp;have hl:0<p.put.length:=Wax.2 hp;rw[X6,Qcj] at hw
 have ht:t=true:=by
  refine hy.some_of ?_
  cases y with
  | nil=>simp only[Qw] at hw;omega
  | cons=>simp
 obtain⟨n2,v,r2,h2,e2,rfl,hv,_⟩:=hy.noput hq ht;rw[Y6,Y7] at hw;obtain⟨n,hn⟩:∃ n,n=min p.put.length n2:=⟨_,rfl⟩;have hn1:n≤p.put.length:=by omega
 have hn2:n≤n2:=by omega
 have d1:(List.map PT.byte p.put++r1).drop n=List.map PT.byte (p.put.drop n)++r1:=by
  rw[List.drop_append_of_le_length (by simpa using hn1),List.map_drop]
 have d2:(List.replicate n2 (unit v)++r2).drop n=List.replicate (n2-n) (unit v)++r2:=by
  rw[List.drop_append_of_le_length (by simpa using hn2),List.drop_replicate]
 have key:cm (List.map PT.byte p.put++r1) (List.replicate n2 (unit v)++r2)=(if v=true then [] else (p.put.take n).map PT.byte)++cm (List.map PT.byte (p.put.drop n)++r1) (List.replicate (n2-n) (unit v)++r2):=by
  have s1:List.map PT.byte p.put++r1=(p.put.take n).map PT.byte++(List.map PT.byte (p.put.drop n)++r1):=by
   rw[← Wah,← Wbo,Wbh]
  have s2:List.replicate n2 (unit v)++r2=List.replicate (p.put.take n).length (unit v)++(List.replicate (n2-n) (unit v)++r2):=by
   rw[← Wah,List.replicate_append_replicate,Wbb,show min n p.put.length+(n2-n)=n2 from by omega]
  rw[s1,s2,Qd1]
 refine⟨n,by omega,by omega,hn1,by simp;omega,by simp;omega,?_⟩;rw[d1,d2,key];refine⟨?_,?_,?_⟩
 ·simp only[X6,Qcj,Y6,Y7,War] at hw ⊢;omega
 ·intro hk;refine⟨PT.arg_put (fun e=>by have:=congrArg List.length e;rw[Wbb,List.length_nil] at this;omega),?_⟩;rw[YU,Ye,Wah,if_neg (fun e=>hv.1 e hk)]
 ·intro hk;rw[if_pos (hv.2 hk)];rfl
theorem Qn1 (hx:Nx x p s)(hy:Nx y q t)(hp:p.put=[])(hd:¬ 0<p.drop)(hq:q.put=[])(hw:QH x=Qw y)(hs:s=true∨t=true) :
  ∃ n:Nat,0<n∧min p.keep (q.keep+q.drop)=n∧n≤x.length∧n≤y.length∧QH (x.drop n)=Qw (y.drop n) ∧
   (0<q.keep→Qi (out++[⟨n,0,[]⟩])++cm (x.drop n) (y.drop n)=Qi out++cm x y) ∧
   (¬ 0<q.keep→Qi (out++[⟨0,n,[]⟩])++cm (x.drop n) (y.drop n)=Qi out++cm x y):=by
 have hkeep:s=true→∃ (n:Nat) (r:List PT),0<n∧p.keep=n∧x=List.replicate n PT.k1++r:=by
  intro h;rcases hx with ⟨_,ha,r,rfl⟩ | ⟨h',_⟩
  ·rcases ha.cases with ⟨b,hb,rfl⟩ | ⟨n,hn,rfl⟩ | ⟨n,hn,rfl⟩
   ·exact absurd hp hb
   ·exact absurd hd (by simp;omega)
   ·exact⟨n,r,hn,rfl,by rw[Yn]⟩
  ·subst h;exact absurd h' (by simp)
 have both:s=true∧t=true:=by
  rcases hs with h | h
  ·refine⟨h,?_⟩;obtain⟨n,r,hn,_,rfl⟩:=hkeep h;rw[X6,Qaa] at hw;refine hy.some_of ?_
   cases y with
   | nil=>simp[Qw] at hw;omega
   | cons=>simp
  ·refine⟨?_,h⟩;obtain⟨n,v,r,hn,_,rfl,_⟩:=hy.noput hq h;rw[Y6,Y7] at hw;refine hx.some_of ?_
   cases x with
   | nil=>simp[QH] at hw;omega
   | cons=>simp
 obtain⟨n1,r1,h1,e1,rfl⟩:=hkeep both.1;obtain⟨n2,v,r2,h2,e2,rfl,hv,_⟩:=hy.noput hq both.2;rw[X6,Qaa,Y6,Y7] at hw;obtain⟨n,hn⟩:∃ n,n=min n1 n2:=⟨_,rfl⟩;have hn1:n≤n1:=by omega
 have hn2:n≤n2:=by omega
 have d1:∀ (m:Nat) (w:PT) (r:List PT),n≤m→(List.replicate m w++r).drop n=List.replicate (m-n) w++r:=fun m w r h=>by
  rw[List.drop_append_of_le_length (by simpa using h),List.drop_replicate]
 have s1:∀ (m:Nat) (w:PT) (r:List PT),n≤m→List.replicate m w++r=List.replicate n w++(List.replicate (m-n) w++r):=fun m w r h=>by
  rw[← Wah,List.replicate_append_replicate,show n+(m-n)=m from by omega]
 have key:cm (List.replicate n1 PT.k1++r1) (List.replicate n2 (unit v)++r2)=List.replicate n (unit v)++cm (List.replicate (n1-n) PT.k1++r1) (List.replicate (n2-n) (unit v)++r2):=by
  rw[s1 n1 PT.k1 r1 hn1,s1 n2 (unit v) r2 hn2,Qd2]
 refine⟨n,by omega,by omega,by simp;omega,by simp;omega,?_⟩;rw[d1 _ _ _ hn1,d1 _ _ _ hn2,key];refine⟨?_,?_,?_⟩
 ·simp only[X6,Qaa,Y6,Y7];omega
 ·intro hk
  have:v=false:=by
   cases v with
   | false=>rfl
   | true=>exact absurd hk (hv.1 rfl)
  subst this;rw[YU,Yn,Wah];rfl
 ·intro hk
  have:v=true:=hv.2 hk
  subst this;rw[YU,Ym,Wah];rfl
end
end
section
open Go.RowKit
attribute [local go_sem ↓] Go.wp_at_zero Go.wp_at_succ
theorem Qfz (a:Int):-9223372036854775808≤wrap64 a∧wrap64 a≤9223372036854775807:=by unfold wrap64;omega
end
section
open Go.RowKit
theorem Qak {l:List PT}{m:Int}(h:chk l m=0):∀ p∈l,p.Good:=by
 unfold chk at h
 split at h
 ·rename_i h1
  clear h
  induction l with
  | nil=>intro p hp;simp at hp
  | cons p l ih =>
   unfold e1 at h1
   split at h1
   ·exact absurd h1 (by decide)
   ·rename_i ha
    split at h1
    ·exact absurd h1 (by decide)
    ·rename_i hf
     intro q hq;rcases Wbk.1 hq with rfl | hq
     ·exact⟨Classical.not_not.1 ha,Classical.not_not.1 hf⟩
     ·exact ih h1 q hq
 ·rename_i h1;exact absurd h h1
end
end Go.Proofs.YtckkgdmkfbkaoaaGreatDoor
