/- Texts of the proof. -/
import Derived.Test.YtckkgdmkfbkaoaaGreatDoorM31
import Derived.Test.YtckkgdmkfbkaoaaGreatDoorM21
namespace Go.Proofs.YtckkgdmkfbkaoaaGreatDoor
open Go.Proofs.Tryz
set_option maxRecDepth 100000
set_option maxHeartbeats 32000000
set_option linter.all false
section
open Go.RowKit
theorem Qc8 {rs:List Int}(h:U.AllR rs)(w:World)(hl:bl rs≤1000000) :
  Calls prog 265 #[.string ⟨(U.encs rs).toArray⟩] w fun e w'=>Below w.heap.size w w'∧∃ v,e=.returned v∧Sl w' 1 v (U.hvs rs).length (Qt (U.hvs rs)):=by
 have HC:=Hm (Qv3 (U.sp_encs h) w (by show bl rs≤_;omega));clear h;go_enter func265,ntmps265
 go_wp2_with fail;refine HC.o.mono ?_;rintro e w1 ⟨hb,hok,-⟩;obtain⟨v,rfl,hs⟩:=hok rfl;have H:=Hm (Wao hb hs);clear hb hok hs;go_wp2_with fail;go_ret
 exact⟨H.o.1,v,rfl,H.o.2⟩
theorem Qc9 {rs:List Int}(h:U.AllR rs)(w:World)(hl:bl rs≤1000000) :
  Calls prog 268 #[.string ⟨(U.encs rs).toArray⟩] w fun e w'=>Below w.heap.size w w'∧∃ v,e=.returned v∧Sl w' 1 v rs.length (Qs rs):=by
 have HC:=Hm (JI (U.sp_encs h) w (by show bl rs≤_;omega));clear h;go_enter func268,ntmps268
 go_wp2_with fail;refine HC.o.mono ?_;rintro e w1 ⟨hb,hok,-⟩;obtain⟨v,rfl,hs⟩:=hok rfl;have H:=Hm (Wao hb hs);clear hb hok hs;go_wp2_with fail;go_ret
 exact⟨H.o.1,v,rfl,H.o.2⟩
theorem Qr7 (v:Value)(a:Int)(w:World):Calls prog 269 #[v,.int .i64 a] w fun e w'=>e=.returned (.bool false)∧w'=w:=by
 go_enter func269,ntmps269
 go_wp2_with fail;go_ret
 exact⟨rfl,rfl⟩
section
attribute [local go_sem] Qz
theorem Qr8 {l:List Int}{v:Value}{n a:Nat}{w:World}(hsl:Sl w 1 v n (Qt l))(hin:U.InH l)(hn:n≤1000000)(ha:a≤n) :
  Calls prog 266 #[v,.int .i64 a] w fun e w'=>e=.returned (.bool (Z5 l a))∧w'=w:=by
 have hl:l.length=n:=by have:=hsl.len;unfold Qt at this;rw[Wbi] at this;omega
 have HSL:=Hm hsl;have HIN:=Hm hin;obtain⟨A,c,rfl,-⟩:=hsl;clear hin
 by_cases h0:a=0
 ·subst h0;have hE:Z5 l 0=false:=by simp[Z5]
  rw[hE];clear hE;go_enter func266,ntmps266
  go_wp2_with fail;go_ret
  exact⟨rfl,rfl⟩
 ·by_cases h1:a<n
  ·obtain⟨m,rfl⟩:∃ m,a=m+1:=⟨a-1,by omega⟩;have hm:m<l.length:=by omega
   obtain⟨A',c',hv,-,-,-,-,h5⟩:=HSL.o
   cases hv
   obtain⟨ad,rfl,hb,hc⟩:=h5 (by omega);have hq:=hc m (.int .u16 l[m]) (by unfold Qt;simp[hm])
   have hE:Z5 l (m+1)=Y8 l[m]:=by
    unfold Z5;rw[decide_eq_true (by omega),decide_eq_true (by omega),List.getD_eq_getElem?_getD,Nat.add_sub_cancel,Waj hm]
    rfl
   have hx:=HIN.o _ (Wau hm);have ha:=Qo2 hx;rw[hE];generalize l[m]=x at *;have e1:(((m+1:Nat):Int)-1)=(m:Int):=by omega
   clear hE hc h5
   by_cases hh:Y8 x=true
   ·have hb2:(bits .and .u16 x 64512 == 55296)=true:=by
     unfold Y8 at hh;rw[decide_eq_true_iff] at hh;rw[ha,beq_iff_eq];omega
    rw[hh];clear ha hh;go_enter func266,ntmps266
    go_wp2_with fail;go_ret
    exact⟨rfl,rfl⟩
   ·have hh:Y8 x=false:=by simpa using hh
    have hb2:(bits .and .u16 x 64512 == 55296)=false:=by
     unfold Y8 at hh;rw[decide_eq_false_iff_not] at hh;rw[ha,Waf];omega
    rw[hh];clear ha hh;go_enter func266,ntmps266
    go_wp2_with fail;go_ret
    exact⟨rfl,rfl⟩
  ·have hE:Z5 l a=false:=by unfold Z5;rw[decide_eq_false (by omega:¬ a<l.length)];simp
   rw[hE];clear hE;go_enter func266,ntmps266
   go_wp2_with fail;go_ret
   exact⟨rfl,rfl⟩
end
end
section
open Go.RowKit
noncomputable def ah (u at_:Int)(R:List Int):Cn × Int:=by
 classical
 exact if h:∃ x:Cn × Int,Q3 u at_ R x.1 (erV x.2) then Classical.choose h else (Cn.zero,0)
theorem Qdg {u at_:Int}{R:List Int}{c:Cn}{k:Int}(h:Q3 u at_ R c (erV k)):ah u at_ R=(c,k):=by
 have hx:∃ x:Cn × Int,Q3 u at_ R x.1 (erV x.2):=⟨(c,k),h⟩;have h2:=Classical.choose_spec hx;obtain⟨e1,e2⟩:=h2.unique h;unfold ah;rw[dif_pos hx];exact Prod.ext e1 (Xw e2)
def tnP (p:PT)(x:Int):PT:=if 0<p.keep then ⟨x,p.drop,p.put⟩ else if 0<p.drop then ⟨p.keep,x,p.put⟩ else p
noncomputable def tnF (R:List Int)(u tu:Int):Cn→Int→List PT→List PT × Int
 | _,_,[]=>([],0)
 | c,a,p :: l=>if (ah u (a+(p.keep+p.drop)) R).2=0
  then (tnP p ((ah u (a+(p.keep+p.drop)) R).1.of tu-c.of tu) :: (tnF R u tu (ah u (a+(p.keep+p.drop)) R).1 (a+(p.keep+p.drop)) l).1,(tnF R u tu (ah u (a+(p.keep+p.drop)) R).1 (a+(p.keep+p.drop)) l).2)
  else ([],(ah u (a+(p.keep+p.drop)) R).2)
theorem Qdh {R:List Int}{u tu a k:Int}{c c':Cn}{p:PT}{l:List PT}(h:Q3 u (a+(p.keep+p.drop)) R c' (erV k))(hk:k≠0):tnF R u tu c a (p :: l)=([],k):=by
 rw[tnF,Qdg h,if_neg hk]
theorem YJ {R:List Int}{u tu a:Int}{c c':Cn}{p:PT}{l:List PT}(h:Q3 u (a+(p.keep+p.drop)) R c' (erV 0)) :
  tnF R u tu c a (p :: l)=(tnP p (c'.of tu-c.of tu) :: (tnF R u tu c' (a+(p.keep+p.drop)) l).1,(tnF R u tu c' (a+(p.keep+p.drop)) l).2):=by
 rw[tnF,Qdg h,if_pos rfl]
theorem Jz (b:U.Bs)(x:Int):tnP ⟨0,0,b⟩ x=⟨0,0,b⟩:=rfl
theorem J2 {n:Nat}(h:0<n)(x:Int):tnP ⟨0,n,[]⟩ x=⟨0,x,[]⟩:=by
 have h1:(0:Int)<n:=by omega
 unfold tnP;rw[if_neg (by simp),if_pos h1]
theorem J3 {n:Nat}(h:0<n)(x:Int):tnP ⟨n,0,[]⟩ x=⟨x,0,[]⟩:=by
 have h1:(0:Int)<n:=by omega
 unfold tnP;rw[if_pos h1]
theorem Qsn {l:List PT}(h:e1 l=0):∀ p∈l,p.Good:=by
 induction l with
 | nil=>intro p hp;simp at hp
 | cons p l ih =>
  unfold e1 at h
  split at h
  ·exact absurd h (by decide)
  ·rename_i h1
   split at h
   ·exact absurd h (by decide)
   ·rename_i h2
    intro q hq;rcases Wbk.1 hq with rfl | hq
    ·exact⟨Classical.not_not.1 h1,Classical.not_not.1 h2⟩
    ·exact ih h q hq
theorem Qso {l:List PT}{n:Int}(h:e2 n l=0):was l=n:=by
 induction l generalizing n with
 | nil=>unfold e2 at h;rw[was];split at h<;>omega
 | cons p l ih =>
  unfold e2 at h
  split at h
  ·omega
  ·rw[was,ih h];omega
theorem J4 {l:List PT}{n:Int}(h:chk l n=0):(∀ p∈l,p.Good)∧was l=n:=by
 unfold chk at h
 split at h
 ·rename_i h1;exact⟨Qsn h1,Qso h⟩
 ·rename_i h1;exact absurd h h1
theorem Qsp {l:List PT}(h:∀ p∈l,p.Good):0≤was l:=by
 induction l with
 | nil=>exact Wba _
 | cons p l ih =>
  have:=(h p (by simp)).1
  have h2:=ih fun q hq=>h q (List.mem_cons_of_mem _ hq)
  have h3:=this.2;rw[was];omega
structure TnI (R:List Int)(u tu:Int)(l:List PT)(m:Int)(k:Nat)(c:Cn)(a:Int)(o:List PT):Prop where
 k_le:k≤l.length
 out:(tnF R u tu Cn.zero 0 l).1=o++(tnF R u tu c a (l.drop k)).1
 err:(tnF R u tu Cn.zero 0 l).2=(tnF R u tu c a (l.drop k)).2
 len:o.length=k
 a0:0≤a
 tot:a+was (l.drop k)=m
 c0:0≤c.of tu
 c1:c.of tu≤1000000
theorem Qho (u:Int):Cn.zero.of u=0:=by unfold Cn.of;(repeat' split)<;>rfl
theorem TnI.start {R:List Int}{u tu m:Int}{l:List PT}(h:was l=m):TnI R u tu l m 0 Cn.zero 0 [] :=
 ⟨Nat.zero_le _,rfl,rfl,rfl,Wba _,by rw[List.drop_zero];omega,by rw[Qho];exact Wba _,by rw[Qho];decide⟩
theorem ZW {l:List PT}{k:Nat}(hk:k<l.length):l.drop k=l[k] :: l.drop (k+1):=Wbl hk
theorem TnI.bound {R:List Int}{u tu m:Int}{l:List PT}{k:Nat}{c:Cn}{a:Int}{o:List PT}(h:TnI R u tu l m k c a o)(hg:∀ p∈l,p.Good)(hk:k<l.length):0≤a+(l[k].keep+l[k].drop)∧a+(l[k].keep+l[k].drop)≤m∧a≤m:=by
 have h1:=h.tot;have h2:=Qsp (l:=l.drop (k+1)) fun p hp=>hg p (List.mem_of_mem_drop hp)
 have h3:=(hg _ (Wau hk)).1.2;have h4:=h.a0;rw[ZW hk,was] at h1;omega
theorem TnI.stop {R:List Int}{u tu m:Int}{l:List PT}{k:Nat}{c c':Cn}{a e:Int}{o:List PT}(h:TnI R u tu l m k c a o)(hk:k<l.length)(hA:Q3 u (a+(l[k].keep+l[k].drop)) R c' (erV e))(he:e≠0):(tnF R u tu Cn.zero 0 l).2=e:=by
 rw[h.err,ZW hk,Qdh hA he]
theorem Q3.nil {u at_:Int}{R:List Int}{c:Cn}(h:Q3 u at_ R c (erV 0)):Pl u at_ R c:=by
 rcases JH h with ⟨-,hp,-⟩ | ⟨k,e,-,hk,-⟩
 ·exact hp
 ·exact absurd e (by intro e;cases e)
theorem TnI.step {R:List Int}{u tu m:Int}{l:List PT}{k:Nat}{c c':Cn}{a:Int}{o:List PT}(h:TnI R u tu l m k c a o)(hg:∀ p∈l,p.Good)(hk:k<l.length)(hR:R.length≤100000)(hA:Q3 u (a+(l[k].keep+l[k].drop)) R c' (erV 0)) :
  TnI R u tu l m (k+1) c' (a+(l[k].keep+l[k].drop)) (o++[tnP l[k] (c'.of tu-c.of tu)]):=by
 have hb:=h.bound hg hk;obtain⟨p,q,e1,-,rfl⟩:=hA.nil;have hpl:p.length≤100000:=by have:=congrArg List.length e1;rw[Wad] at this;omega
 refine⟨by omega,?_,?_,by rw[Wad,h.len];rfl,hb.1,?_,QJ _ _,?_⟩
 ·rw[h.out,ZW hk,YJ hA,Wah];rfl
 ·rw[h.err,ZW hk,YJ hA]
 ·have:=h.tot;rw[ZW hk,was] at this;omega
 ·have:=of_le (rs:=p) (Wak _) tu;omega
theorem TnI.finish {R:List Int}{u tu m:Int}{l:List PT}{k:Nat}{c:Cn}{a:Int}{o:List PT}(h:TnI R u tu l m k c a o)(hk:k=l.length):(tnF R u tu Cn.zero 0 l).1=o∧(tnF R u tu Cn.zero 0 l).2=0:=by
 have h1:=h.out;have h2:=h.err;rw[hk,List.drop_length,tnF] at h1 h2
 exact⟨by rw[h1,Wam],h2⟩
def TnR (R:List Int)(l:List PT)(u tu:Int)(o:List PT)(k:Int):Prop :=
 (¬ ((1≤u∧u≤3)∧(1≤tu∧tu≤3))→o=[]∧k=1) ∧
 (((1≤u∧u≤3)∧(1≤tu∧tu≤3))→chk l ((cnt R).of u)≠0→o=[]∧k=chk l ((cnt R).of u)) ∧
 (((1≤u∧u≤3)∧(1≤tu∧tu≤3))→chk l ((cnt R).of u)=0→k=(tnF R u tu Cn.zero 0 l).2∧o=if k=0 then (tnF R u tu Cn.zero 0 l).1 else [])
theorem TnR.unique {R:List Int}{l o o':List PT}{u tu k k':Int}(h:TnR R l u tu o k)(h':TnR R l u tu o' k'):o=o'∧k=k':=by
 obtain⟨h1,h2,h3⟩:=h;obtain⟨g1,g2,g3⟩:=h'
 by_cases hu:(1≤u∧u≤3)∧(1≤tu∧tu≤3)
 ·by_cases hc:chk l ((cnt R).of u)=0
  ·obtain⟨e1,e2⟩:=h3 hu hc;obtain⟨f1,f2⟩:=g3 hu hc;have e:k=k':=e1.trans f1.symm;subst e
   exact⟨e2.trans f2.symm,rfl⟩
  ·exact⟨(h2 hu hc).1.trans (g2 hu hc).1.symm,(h2 hu hc).2.trans (g2 hu hc).2.symm⟩
 ·exact⟨(h1 hu).1.trans (g1 hu).1.symm,(h1 hu).2.trans (g1 hu).2.symm⟩
end
section
theorem Pl.ahead {u at_:Int}{R:List Int}{c:Cn}(hu:1≤u∧u≤3)(h:Pl u at_ R c):Q3 u at_ R c (erV 0) :=
 ⟨fun e=>by omega,fun _ e=>by have:=h.range;omega,fun _ _=>.inl ⟨rfl,h⟩⟩
theorem Qgj (u at_:Int)(R:List Int):∃ c k,Q3 u at_ R c (erV k):=by
 by_cases hu:u<1∨3<u
 ·exact⟨Cn.zero,1,fun _=>⟨rfl,rfl⟩,fun e=>absurd hu e,fun e=>absurd hu e⟩
 ·by_cases ha:at_<0∨(cnt R).of u<at_
  ·exact⟨Cn.zero,2,fun e=>absurd e hu,fun _ _=>⟨rfl,rfl⟩,fun _ e=>absurd ha e⟩
  ·by_cases hp:∃ c,Pl u at_ R c
   ·obtain⟨c,hp⟩:=hp
    exact⟨c,0,fun e=>absurd e hu,fun _ e=>absurd e ha,fun _ _=>.inl ⟨rfl,hp⟩⟩
   ·exact⟨Cn.zero,10,fun e=>absurd e hu,fun _ e=>absurd e ha,fun _ _=>.inr ⟨rfl,rfl,fun c' h=>hp ⟨c',h⟩⟩⟩
theorem ZH (rs:List Int):(cnt rs).of 1=bl rs:=by
 have:=ZB rs
 exact this
theorem Qcr (rs:List Int):(cnt rs).of 3=rs.length:=(Zk rs).2.2
theorem XN {u a n:Int}{P Q:List Int}{c:Cn}(ha:(cnt P).of u=a)(hn:0≤n)(hu:1≤u∧u≤3)(h:Pl u (a+n) (P++Q) c):∃ d q,Q=d++q∧c=cnt (P++d)∧(cnt d).of u=n:=by
 obtain⟨p',q',e1,e2,rfl⟩:=h;rcases XK e1 with ⟨d,h1,h2⟩ | ⟨d,h1,h2⟩
 ·subst h1 h2;rw[Qp] at e2
  exact⟨d,q',rfl,rfl,by omega⟩
 ·subst h1 h2;rw[Qp] at ha
  have:=QJ d u
  have h0:(cnt d).of u=0:=by omega
  have h3:d=[]:=by
   have:=Y5 d hu
   exact List.length_eq_zero_iff.1 (by omega)
  subst h3
  exact⟨[],Q,rfl,by rw[Wam,Wam],by rw[QQ,ZC];omega⟩
theorem Qcs {b:U.Bs}(h:(⟨0,0,b⟩:PT).Good):∃ rs,rs≠[]∧U.AllR rs∧b=U.encs rs:=by
 obtain⟨h1,rs,hs⟩:=h;have e:=hs.eq;rw[Wam] at e;refine⟨rs,?_,hs.all,e⟩;rintro rfl
 have:b=[]:=e
 subst this;exact absurd h1.1 (by decide)
theorem Qgk {R P Q:List Int}{u:Int}{l:List PT}(hu:1≤u∧u≤3)(hR:R=P++Q)(hg:∀ p∈l,p.Good)(hw:was l=(cnt Q).of u)(hk:(tnF R u 1 (cnt P) ((cnt P).of u) l).2=0) :
  (∃ X,OpR (tnF R u 1 (cnt P) ((cnt P).of u) l).1 X Q)∧Qd (tnF R u 1 (cnt P) ((cnt P).of u) l).1=Qd l∧(tnF R u 1 (cnt P) ((cnt P).of u) l).1.length=l.length:=by
 induction l generalizing P Q with
 | nil =>
  have:Q=[]:=by
   have:=Y5 Q hu
   rw[was] at hw;exact List.length_eq_zero_iff.1 (by omega)
  subst this;rw[tnF]
  exact⟨⟨_,.nil⟩,rfl,rfl⟩
 | cons p l ih =>
  obtain⟨c,k,hA⟩:=Qgj u ((cnt P).of u+(p.keep+p.drop)) R;have hgp:=hg p (by simp);have hgl:∀ q∈l,q.Good:=fun q hq=>hg q (by simp[hq])
  by_cases h0:k=0
  ·subst h0;rw[YJ hA] at hk ⊢;have hpl:=hA.nil;rw[hR] at hpl;have hnn:=hgp.1.2;obtain⟨d,q,rfl,rfl,hd⟩:=XN rfl (by omega) hu hpl;have e1:(cnt P).of u+(p.keep+p.drop)=(cnt (P++d)).of u:=by rw[Qp,hd]
   rw[was,Qp,hd] at hw;rw[e1] at hk ⊢;dsimp only at hk ⊢;obtain⟨⟨X,i1⟩,i2,i3⟩:=ih (P:=P++d) (Q:=q) (by rw[hR,Wah]) hgl (by omega) hk;have e2:(cnt (P++d)).of 1-(cnt P).of 1=bl d:=by rw[Qp,ZH d];omega
   rw[e2];rcases hgp.1.cases with ⟨b,hb,rfl⟩ | ⟨n,hn,rfl⟩ | ⟨n,hn,rfl⟩
   ·obtain⟨rs,hr,hall,rfl⟩:=Qcs hgp
    have hd0:d=[]:=by
     have:=Y5 d hu
     dsimp only at hd;exact List.length_eq_zero_iff.1 (by omega)
    subst hd0;rw[Jz,Qd,Qd,Wan,Wan,i2,i3]
    exact⟨⟨_,.put hr hall i1⟩,rfl,rfl⟩
   ·have hd0:d≠[]:=by
     rintro rfl;rw[QQ,ZC] at hd;dsimp only at hd;omega
    rw[J2 hn,Qd,Qd,Wan,Wan,i2,i3]
    exact⟨⟨_,.drop hd0 i1⟩,rfl,rfl⟩
   ·have hd0:d≠[]:=by
     rintro rfl;rw[QQ,ZC] at hd;dsimp only at hd;omega
    rw[J3 hn,Qd,Qd,Wan,Wan,i2,i3]
    exact⟨⟨_,.keep hd0 i1⟩,rfl,rfl⟩
  ·rw[Qdh hA h0] at hk;exact absurd hk h0
theorem Jp {l:List PT}{n:Int}(hg:∀ p∈l,p.Good)(hw:was l=n):chk l n=0:=by
 unfold chk;rw[Qdi hg,if_pos rfl];exact Qex (fun p hp=>(hg p hp).1) hw
theorem Qct {R:List Int}{l o:List PT}{u:Int}(hu:1≤u∧u≤3)(h:TnR R l u 1 o 0):(∃ X,OpR o X R)∧Qd o=Qd l∧o.length=l.length∧(∀ p∈l,p.Good)∧was l=(cnt R).of u:=by
 have hc:chk l ((cnt R).of u)=0:=by
  by_cases hc:chk l ((cnt R).of u)=0
  ·exact hc
  ·exact absurd (h.2.1 ⟨hu,by decide⟩ hc).2.symm hc
 obtain⟨hg,hw⟩:=J4 hc;obtain⟨e1,e2⟩:=h.2.2 ⟨hu,by decide⟩ hc;have z:((cnt ([]:List Int)).of u)=0:=by rw[QQ,ZC]
 obtain⟨a,b,c⟩:=Qgk (R:=R) (P:=[]) (Q:=R) hu rfl hg hw (by rw[z,QQ];exact e1.symm);rw[z,QQ] at a b c;rw[if_pos rfl] at e2;subst e2
 exact⟨a,b,c,hg,hw⟩
end
section
open Go.RowKit
section
attribute [local go_sem] Qz Cn.v_eq
end
end
end Go.Proofs.YtckkgdmkfbkaoaaGreatDoor
