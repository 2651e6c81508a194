/- Texts of the proof. -/
import Derived.Test.YtckkgdmkfbkaoaaGreatDoorM32
import Derived.Test.YtckkgdmkfbkaoaaGreatDoorM18
import Derived.Test.YtckkgdmkfbkaoaaGreatDoorM33
import Derived.Lib.Bytealg
import Derived.Test.YtckkgdmkfbkaoaaGreatDoorM39
import Derived.Lib.LaidTab
import Derived.Lib.ItoaNum
import Derived.ChangeSame
import Derived.ChangeVars
import Derived.LaidHandle
import Derived.Stop.Joined
import Derived.Lay
namespace Go.Proofs.YtckkgdmkfbkaoaaGreatDoor
open Go.Proofs.Tryz
set_option maxRecDepth 100000
set_option maxHeartbeats 32000000
set_option linter.all false
section
open Go.RowKit
theorem Qwr (rs:List Int)(X:List (RU Int)):rws U.wid (rs.map .p++X)=bl rs+rws U.wid X:=by
 induction rs with
 | nil=>simp
 | cons r rs ih=>simp only[List.map_cons,Wap,rws,ih,Z9];omega
theorem Qws (n:Nat)(X:List (RU Int)):rws U.wid (List.replicate n .k++X)=rws U.wid X:=by
 induction n with
 | zero=>rfl
 | succ n ih=>simp only[Wat,Wap,rws,ih]
theorem Qwt (n:Nat)(X:List (RU Int)):rws U.wid (List.replicate n .d++X)=rws U.wid X:=by
 induction n with
 | zero=>rfl
 | succ n ih=>simp only[Wat,Wap,rws,ih]
theorem OpR.plen_ {l:List PT}{X:List (RU Int)}{R:List Int}(h:OpR l X R):Qd l=rws U.wid X:=by
 induction h with
 | nil=>rfl
 | put _ _ _ ih=>rw[Qd,Qwr,ih];rfl
 | keep _ _ ih=>rw[Qd,Qws,ih];simp
 | drop _ _ ih=>rw[Qd,Qwt,ih];simp
theorem Xh {l:List PT}(h:∀ p∈l,p.arg):(l.length:Int)≤was l+Qd l:=by
 induction l with
 | nil=>simp[was,Qd]
 | cons p l ih =>
  have i:=ih fun q hq=>h q (by simp[hq])
  rw[was,Qd,Wan];rcases (h p (by simp)).cases with ⟨b,hb,rfl⟩ | ⟨n,hn,rfl⟩ | ⟨n,hn,rfl⟩
  ·have:=Wax.2 hb
   dsimp only;omega
  ·dsimp only[List.length_nil];omega
  ·dsimp only[List.length_nil];omega
theorem Qbg {l:List PT}(h:∀ p∈l,p.arg):(Qd l:Int)≤comes l:=by
 induction l with
 | nil=>simp[comes,Qd]
 | cons p l ih =>
  have i:=ih fun q hq=>h q (by simp[hq])
  have:=(h p (by simp)).2.1
  rw[comes,Qd];omega
theorem OpR.args {l:List PT}{X:List (RU Int)}{R:List Int}(h:OpR l X R):∀ p∈l,p.arg:=fun p hp=>(h.arg p hp).1
theorem Y2 {l:List PT}{p:PT}(h:p∈l):p.put.length≤Qd l:=by
 induction l with
 | nil=>cases h
 | cons q l ih =>
  rw[Qd];rcases Wbk.1 h with rfl | h
  ·omega
  ·have:=ih h;omega
theorem Qwu {X Y:List (RU Int)}{r:Int}(h:.p r∈rcm X Y):.p r∈X∨.p r∈Y:=by
 generalize hm:X.length+Y.length=m
 induction m using Nat.strongRecOn generalizing X Y with
 | _ m ih =>
  have step:∀ (X' Y':List (RU Int)),X'.length+Y'.length<m→.p r∈rcm X' Y'→.p r∈X'∨.p r∈Y':=fun X' Y' h1 h2=>ih _ h1 h2 rfl
  clear ih
  match X,Y with
  | .d :: X,Y=>have:=step X Y (by simp at hm ⊢;omega);simp_all [rcm]
  | .p s :: X,.p q :: Y=>have:=step (.p s :: X) Y (by simp at hm ⊢;omega);simp only[rcm,Wbk,RU.p.injEq] at h this ⊢;rcases h with h | h<;>simp_all;rcases this with h | h<;>simp_all
  | .k :: X,.p s :: Y=>have:=step (.k :: X) Y (by simp at hm ⊢;omega);simp only[rcm,Wbk,RU.p.injEq] at h this ⊢;rcases h with h | h<;>simp_all;rcases this with h | h<;>simp_all
  | [],.p s :: Y=>have:=step [] Y (by simp at hm ⊢;omega);simp only[rcm,Wbk,RU.p.injEq] at h this ⊢;rcases h with h | h<;>simp_all
  | .p s :: X,.k :: Y=>have:=step X Y (by simp at hm ⊢;omega);simp only[rcm,Wbk,RU.p.injEq] at h this ⊢;rcases h with h | h<;>simp_all;rcases this with h | h<;>simp_all
  | .p s :: X,.d :: Y=>have:=step X Y (by simp at hm ⊢;omega);simp only[rcm,Wbk,RU.p.injEq] at h this ⊢;have:=this h;rcases this with h | h<;>simp_all
  | .k :: X,.k :: Y=>have:=step X Y (by simp at hm ⊢;omega);simp_all [rcm]
  | .k :: X,.d :: Y=>have:=step X Y (by simp at hm ⊢;omega);simp_all [rcm]
  | .p s :: X,[]=>simp[rcm] at h
  | .k :: X,[]=>simp[rcm] at h
  | [],.k :: Y=>simp[rcm] at h
  | [],.d :: Y=>simp[rcm] at h
  | [],[]=>simp[rcm] at h
theorem Qwv (rs:List Int)(X:List (RU Int))(R:List Int):rap (rs.map .p++X) R=rs++rap X R:=by
 induction rs with
 | nil=>rfl
 | cons r rs ih=>simp only[List.map_cons,Wap,rap,ih]
theorem Qww (rs:List Int)(X:List (RU Int))(R:List Int):rap (List.replicate rs.length .k++X) (rs++R)=rs++rap X R:=by
 induction rs with
 | nil=>rfl
 | cons r rs ih=>simp only[Wap,rap,ih,Wan,Wat]
theorem Qwx (rs:List Int)(X:List (RU Int))(R:List Int):rap (List.replicate rs.length .d++X) (rs++R)=rap X R:=by
 induction rs with
 | nil=>rfl
 | cons r rs ih=>simp only[Wap,rap,ih,Wan,Wat]
theorem OpR.bounds {l:List PT}{X:List (RU Int)}{R:List Int}(h:OpR l X R):Qd l≤bl (rap X R)∧bl (rap X R)≤bl R+Qd l:=by
 have h1:=Qbg h.args;have h2:=Qg1 h.args;obtain⟨h3,h4⟩:=h.sizes;omega
theorem Qec {l la lb:List PT}{X Y:List (RU Int)}{R S:List Int}{first:Bool}(h:OpR l (rnm 0 (rtr first (rnm 0 X) (rnm 0 Y))) S)(ha:OpR la X R)(hb:OpR lb Y R):Qd l=Qd la:=by
 rw[h.plen_,ha.plen_,Qfw,(Qm6 U.wid (by rw[ha.norm_.was_,hb.norm_.was_])).2,Qfw]
end
section
open Go.RowKit
def trl (first:Bool)(a b:List PT):List PT:=YR (tr first (Qi (norm a)) (Qi (norm b)))
theorem Qdu {first:Bool}{la lb:List PT}{X Y:List (RU Int)}{R:List Int}(hA:OpR la X R)(hB:OpR lb Y R):OpR (trl first la lb) (rnm 0 (rtr first (rnm 0 X) (rnm 0 Y))) (rap Y R):=by
 have e1:rap (rnm 0 Y) R=rap Y R:=by rw[Jn 0 Y R (by have:=hB.was_;omega)];rfl
 have hw1:=hA.norm_;have hw2:=hB.norm_
 have e2:tr first (Qi (norm la)) (Qi (norm lb))=Qf (rtr first (rnm 0 X) (rnm 0 Y)) (rap Y R):=by
  rw[hw1.expand_,hw2.expand_,Qks hw1.was_ hw2.was_,e1]
 have hm:=Qfq (first:=first) (X:=rnm 0 X) (Y:=rnm 0 Y) (R:=R) hw1.was_ hw2.was_;have hl:Qc (rtr first (rnm 0 X) (rnm 0 Y))=(rap Y R).length:=by rw[hm.2.1,← e1,Jm hw2.was_]
 have hp:Xj (rtr first (rnm 0 X) (rnm 0 Y)):=fun r hr=>hw1.allP r (Qlo hr)
 unfold trl;rw[e2];exact Qb1 hl hp
def zs (n:Nat):List Int:=List.replicate n 48
theorem Qi5 (n:Nat):bl (zs n)=n:=by
 induction n with
 | zero=>rfl
 | succ n ih =>
  have e:zs (n+1)=48 :: zs n:=rfl;have h1:U.wid 48=1:=by decide
  rw[e,Z9,ih,h1];omega
theorem Qi6 (a b:Nat):zs (a+b)=zs a++zs b:=by unfold zs;rw[List.replicate_append_replicate]
theorem Qi7 {n:Nat}(h:0<n):zs n≠[]:=fun e=>by
 have:=congrArg List.length e
 unfold zs at this;simp at this;omega
theorem Qi8 {l:List PT}(h:∀ p∈l,p.Good){n:Nat}(hw:was l=n):∃ X,OpR l X (zs n):=by
 induction l generalizing n with
 | nil =>
  obtain rfl:n=0:=by rw[was] at hw;omega
  exact⟨_,.nil⟩
 | cons p l ih =>
  have hp:=h p (by simp);have hl:∀ q∈l,q.Good:=fun q hq=>h q (by simp[hq])
  have hnn:=ZJ (fun q hq=>(hl q hq).1);rw[was] at hw;rcases hp.1.cases with ⟨b,hb,rfl⟩ | ⟨m,hm,rfl⟩ | ⟨m,hm,rfl⟩
  ·obtain⟨rs,h1,h2,rfl⟩:=Qcs hp;obtain⟨X,hX⟩:=ih hl (n:=n) (by dsimp only at hw;omega)
   exact⟨_,.put h1 h2 hX⟩
  ·obtain⟨X,hX⟩:=ih hl (n:=n-m) (by dsimp only at hw;omega);have e:zs n=zs m++zs (n-m):=by rw[← Qi6];congr 1;dsimp only at hw;omega
   have:=OpR.drop (rs:=zs m) (Qi7 hm) hX
   rw[Qi5] at this;rw[e]
   exact⟨_,this⟩
  ·obtain⟨X,hX⟩:=ih hl (n:=n-m) (by dsimp only at hw;omega);have e:zs n=zs m++zs (n-m):=by rw[← Qi6];congr 1;dsimp only at hw;omega
   have:=OpR.keep (rs:=zs m) (Qi7 hm) hX
   rw[Qi5] at this;rw[e]
   exact⟨_,this⟩
theorem Qu5 {first:Bool}{a b:List PT}{n:Nat}(ha:∀ p∈a,p.Good)(hb:∀ p∈b,p.Good)(wa:was a=n)(wb:was b=n):(∀ p∈trl first a b,p.Good)∧was (trl first a b)=comes b∧Qd (trl first a b)=Qd a:=by
 obtain⟨X,hX⟩:=Qi8 ha wa;obtain⟨Y,hY⟩:=Qi8 hb wb;have h:=Qdu (first:=first) hX hY
 exact⟨h.arg,by rw[h.sizes.1,hY.sizes.2],Qec h hX hY⟩
theorem Qu6 {P Q:List Int}{l:List PT}(hA:U.AllR (P++Q))(hg:∀ p∈l,p.Good)(hw:Q6 l=bl Q)(hk:aok (U.encs (P++Q)) (bl P) l=true):∃ X,OpR l X Q:=by
 induction l generalizing P Q with
 | nil =>
  rw[Q6] at hw
  have:Q=[]:=by
   cases Q with
   | nil=>rfl
   | cons q Q=>have:=ZQ (rs:=q :: Q) (by simp);omega
  subst this
  exact⟨_,.nil⟩
 | cons p l ih =>
  have hp:=hg p (by simp);have hl:∀ q∈l,q.Good:=fun q hq=>hg q (by simp[hq])
  rw[aok,Bool.and_eq_true,Bool.and_eq_true] at hk;obtain⟨⟨-,hk1⟩,hk2⟩:=hk;rw[Q6] at hw
  have cut:∀ m:Nat,0<m→p.ext=m→∃ d q,Q=d++q∧bl d=m∧d≠[]:=by
   intro m hm he;rw[he] at hk1 hw;rw[Qey,Qaw hA (by rw[bl_append];omega)] at hk1;obtain⟨p2,q2,e2,hb2⟩:=hk1;rcases List.append_eq_append_iff.1 e2 with ⟨d,rfl,hq⟩ | ⟨d,rfl,-⟩
   ·rw[bl_append] at hb2
    exact⟨d,q2,hq,by omega,fun e=>by subst e;simp at hb2;omega⟩
   ·rw[bl_append] at hb2;omega
  rcases hp.1.cases with ⟨b,hb,rfl⟩ | ⟨m,hm,rfl⟩ | ⟨m,hm,rfl⟩
  ·obtain⟨rs,h1,h2,rfl⟩:=Qcs hp;have he:(⟨0,0,U.encs rs⟩:PT).ext=0:=rfl;rw[he] at hk2 hw;obtain⟨X,hX⟩:=ih hA hl (by omega) hk2
   exact⟨_,.put h1 h2 hX⟩
  ·have he:(⟨0,(m:Int),[]⟩:PT).ext=m:=by simp[PT.ext]
   obtain⟨d,q,rfl,hd,hn⟩:=cut m hm he;rw[he] at hk2 hw;rw[← Wah] at hA hk2;obtain⟨X,hX⟩:=ih (P:=P++d) hA hl (by rw[bl_append] at hw;omega) (by rw[bl_append,hd];exact hk2)
   have:=OpR.drop hn hX
   rw[hd] at this
   exact⟨_,this⟩
  ·have he:(⟨(m:Int),0,[]⟩:PT).ext=m:=by simp[PT.ext]
   obtain⟨d,q,rfl,hd,hn⟩:=cut m hm he;rw[he] at hk2 hw;rw[← Wah] at hA hk2;obtain⟨X,hX⟩:=ih (P:=P++d) hA hl (by rw[bl_append] at hw;omega) (by rw[bl_append,hd];exact hk2)
   have:=OpR.keep hn hX
   rw[hd] at this
   exact⟨_,this⟩
theorem Qu7 {l:List PT}{s:U.Bs}(h:apc l s=0):chk l s.length=0∧aok s 0 l=true:=by
 unfold apc at h
 split at h
 ·rename_i h1
  refine⟨h1,?_⟩
  split at h
  ·assumption
  ·exact absurd h (by decide)
 ·rename_i h1;exact absurd h h1
theorem Qdv {l:List PT}{R:List Int}(hR:U.AllR R)(h:apc l (U.encs R)=0):∃ X,OpR l X R:=by
 obtain⟨h1,h2⟩:=Qu7 h;obtain⟨hg,hw⟩:=Qit h1;exact Qu6 (P:=[]) (Q:=R) hR hg hw h2
structure EN where
 who:Int
 id:Int
 op:List PT
structure SV where
 docs:List U.Bs
 log:List EN
 last:Int→Option (Int × Int)
 tk:Nat
def SV.doc (S:SV):U.Bs:=(S.docs[S.log.length]?).getD []
def Q5 (op:List PT)(l:List EN):List PT:=l.foldl (fun o e=>trl false o e.op) op
theorem Qa9 (op:List PT):Q5 op []=op:=rfl
theorem Qdw (op:List PT)(l:List EN)(e:EN):Q5 op (l++[e])=trl false (Q5 op l) e.op:=by unfold Q5;rw[List.foldl_append];rfl
noncomputable def SV.does (S:SV)(who id rev:Int)(op:List PT):Int × SV :=
 if rev<0∨(S.log.length:Int)<rev then (2,S)
 else if 300≤S.log.length then (4,S)
 else if chk op (((S.docs[rev.toNat]?).getD []).length:Nat)≠0 then (chk op (((S.docs[rev.toNat]?).getD []).length:Nat),S)
 else if apc (Q5 op (S.log.drop rev.toNat)) S.doc≠0 then (apc (Q5 op (S.log.drop rev.toNat)) S.doc,S)
 else if 2000<(apr (Q5 op (S.log.drop rev.toNat)) S.doc).length then (12,S)
 else (0,⟨S.docs++[apr (Q5 op (S.log.drop rev.toNat)) S.doc],S.log++[⟨who,id,Q5 op (S.log.drop rev.toNat)⟩],S.last,S.tk⟩)
noncomputable def SV.fresh (S:SV)(who id rev:Int)(op:List PT):Int × SV :=
 ((S.does who id rev op).1,{ (S.does who id rev op).2 with last:=fun x=>if x=who then some (id,(S.does who id rev op).1) else S.last x,tk:=S.tk+1 })
noncomputable def SV.take (S:SV)(who id rev:Int)(op:List PT):Int × SV :=
 match S.last who with
 | some (i,k)=>if id<i then (8,S) else if id=i then (k,S) else S.fresh who id rev op
 | none=>S.fresh who id rev op
structure SVok (S:SV):Prop where
 len:S.docs.length=S.log.length+1
 txt:∀ d∈S.docs,∃ R,U.AllR R∧d=U.encs R∧bl R≤2000
 step:∀ i e d d',S.log[i]?=some e→S.docs[i]?=some d→S.docs[i+1]?=some d'→apc e.op d=0∧apr e.op d=d'
theorem SVok.at_ {S:SV}(h:SVok S){i:Nat}(hi:i≤S.log.length):∃ R,S.docs[i]?=some (U.encs R)∧U.AllR R∧bl R≤2000:=by
 have hl:i<S.docs.length:=by rw[h.len];omega
 obtain⟨R,h1,h2,h3⟩:=h.txt _ (Wau hl)
 exact⟨R,by rw[Waj hl,h2],h1,h3⟩
theorem SVok.doc_ {S:SV}(h:SVok S):∃ R,S.doc=U.encs R∧U.AllR R∧bl R≤2000∧S.docs[S.log.length]?=some (U.encs R):=by
 obtain⟨R,h1,h2,h3⟩:=h.at_ (Wak _)
 exact⟨R,by unfold SV.doc;rw[h1];rfl,h2,h3,h1⟩
theorem SVok.entry {S:SV}(h:SVok S){i:Nat}{e:EN}(he:S.log[i]?=some e):∃ R X,S.docs[i]?=some (U.encs R)∧U.AllR R∧bl R≤2000∧OpR e.op X R∧S.docs[i+1]?=some (U.encs (rap X R))∧bl (rap X R)≤2000∧U.AllR (rap X R):=by
 have hi:i<S.log.length:=(Wai.1 he).1;obtain⟨R,h1,h2,h3⟩:=h.at_ (i:=i) (by omega);obtain⟨R',k1,k2,k3⟩:=h.at_ (i:=i+1) (by omega);obtain⟨a1,a2⟩:=h.step i e _ _ he h1 k1;obtain⟨X,hX⟩:=Qdv h2 a1;have e1:U.encs R'=U.encs (rap X R):=by rw[← a2,(hX.apply h2).2]
 have e2:bl (rap X R)=bl R':=by unfold bl;rw[e1]
 exact⟨R,X,h1,h2,h3,hX,by rw[k1,e1],by omega,QW hX.allP h2⟩
theorem SVok.good {S:SV}(h:SVok S){i:Nat}{e:EN}(he:S.log[i]?=some e):(∀ p∈e.op,p.Good)∧was e.op=(((S.docs[i]?).getD []).length:Nat)∧comes e.op=(((S.docs[i+1]?).getD []).length:Nat)∧Qd e.op≤2000∧was e.op≤2000∧0≤was e.op∧comes e.op≤2000:=by
 obtain⟨R,X,h1,h2,h3,h4,h5,h6,h7⟩:=h.entry he;obtain⟨s1,s2⟩:=h4.sizes;have hb:=h4.bounds;rw[h1,h5]
 exact⟨h4.arg,s1,s2,by omega,by omega,by omega,by omega⟩
theorem Qu8 {S:SV}(h:SVok S){op:List PT}{r:Nat}(hc:chk op (((S.docs[r]?).getD []).length:Nat)=0)(k:Nat)(hk:r+k≤S.log.length) :
  (∀ p∈Q5 op ((S.log.drop r).take k),p.Good)∧was (Q5 op ((S.log.drop r).take k))=(((S.docs[r+k]?).getD []).length:Nat)∧Qd (Q5 op ((S.log.drop r).take k))=Qd op:=by
 induction k with
 | zero =>
  rw[List.take_zero,Qa9]
  exact⟨Qak hc,Qis hc,rfl⟩
 | succ k ih =>
  obtain⟨i1,i2,i3⟩:=ih (by omega);have hl:r+k<S.log.length:=by omega
  have e1:(S.log.drop r).take (k+1)=(S.log.drop r).take k++[S.log[r+k]]:=by
   rw[Wag (by rw[War];omega)]
   congr 2
   rw[List.getElem_drop]
  obtain⟨g1,g2,g3,-⟩:=h.good (Waj hl);rw[e1,Qdw];obtain⟨t1,t2,t3⟩:=Qu5 (first:=false) i1 g1 i2 g2
  exact⟨t1,by rw[t2,g3,Nat.add_assoc],by rw[t3,i3]⟩
theorem Qi9 {a b:List PT}{n:Nat}(ha:∀ p∈a,p.Good)(hb:∀ p∈b,p.Good)(wa:was a=n)(wb:was b=n)(hn:n≤100000):trc a b=0:=by
 have w1:wrap64 (n:Int)=n:=YK (by omega) (by omega);have c1:=Jp ha wa;have c2:=Jp hb wb;unfold trc Zf;rw[wa,wb,w1,c1,c2];simp
theorem Qdx {l:List PT}(hg:∀ p∈l,p.Good)(hw:was l≤100000)(hp:Qd l≤100000):Mo l l.length:=by
 have h1:=Xh (fun p hp=>(hg p hp).1)
 exact⟨fun p hp=>by have:=Y2 hp;omega,by omega,fun _=>by omega⟩
theorem getElem?_snoc {α:Type}{l:List α}{x y:α}{i:Nat}(h:(l++[x])[i]?=some y):l[i]?=some y∨i=l.length∧y=x:=by
 rcases Nat.lt_trichotomy i l.length with hi | hi | hi
 ·rw[List.getElem?_append_left hi] at h;exact .inl h
 ·subst hi;rw[Way (Wak _)] at h;simp at h;exact .inr ⟨rfl,h.symm⟩
 ·rw[List.getElem?_eq_none (by simp;omega)] at h;cases h
theorem SVok.does {S:SV}(h:SVok S)(who id rev:Int)(op:List PT):SVok (S.does who id rev op).2:=by
 unfold SV.does
 split
 ·exact h
 split
 ·exact h
 split
 ·exact h
 split
 ·exact h
 split
 ·exact h
 rename_i h1 h2 h3 h4 h5
 have h4:=Decidable.not_not.1 h4;generalize Q5 op (S.log.drop rev.toNat)=o at *;obtain⟨R,r1,r2,r3,r4⟩:=h.doc_;rw[r1] at h4 h5 ⊢;obtain⟨X,hX⟩:=Qdv r2 h4;obtain⟨a1,a2⟩:=hX.apply r2;rw[a2] at h5 ⊢;refine⟨by simp[h.len],fun d hd=>?_,fun i e d d' he hd hd'=>?_⟩
 ·rcases List.mem_append.1 hd with hd | hd
  ·exact h.txt d hd
  ·obtain rfl:=Wbd.1 hd
   exact⟨_,QW hX.allP r2,rfl,by have:(U.encs (rap X R)).length=bl (rap X R):=rfl;omega⟩
 ·dsimp only at he hd hd';have hl:=h.len;rcases getElem?_snoc he with he | ⟨rfl,rfl⟩
  ·have hi:=(Wai.1 he).1;rw[List.getElem?_append_left (by omega)] at hd hd';exact h.step i e d d' he hd hd'
  ·rw[List.getElem?_append_left (by omega),r4] at hd
   cases hd
   rw[Way (by omega),hl] at hd';simp at hd'
   exact⟨a1,by rw[a2,hd']⟩
theorem SVok.take {S:SV}(h:SVok S)(who id rev:Int)(op:List PT):SVok (S.take who id rev op).2:=by
 have hf:SVok (S.fresh who id rev op).2:=by
  have:=h.does who id rev op
  exact⟨this.len,this.txt,this.step⟩
 unfold SV.take
 split
 ·split
  ·exact h
  ·split
   ·exact h
   ·exact hf
 ·exact hf
def SV.new (s:U.Bs):SV:=⟨[s],[],fun _=>none,0⟩
theorem SVok.new {R:List Int}(h:U.AllR R)(hb:bl R≤2000):SVok (SV.new (U.encs R)) :=
 ⟨rfl,fun d hd=>by obtain rfl:=Wbd.1 hd;exact⟨R,h,rfl,hb⟩,fun i e d d' he=>by simp[SV.new] at he⟩
end
section
open Go.RowKit
theorem Qbh {R S:List Int}(hR:U.AllR R)(hS:U.AllR S)(h:U.encs R=U.encs S):R=S:=by
 have h1:=U.sp_encs hR;have h2:=U.sp_encs hS;rw[h] at h1;exact (h1.unique h2).1
theorem OpR.rap_norm {l:List PT}{X:List (RU Int)}{R:List Int}(h:OpR l X R):rap (rnm 0 X) R=rap X R:=by
 rw[Jn 0 X R (by have:=h.was_;omega)];rfl
theorem Qj1 {la lb:List PT}{X Y:List (RU Int)}{R:List Int}{first:Bool}(ha:OpR la X R)(hb:OpR lb Y R) :
  rap (rnm 0 (rtr (!first) (rnm 0 Y) (rnm 0 X))) (rap X R)=rap (rnm 0 (rtr first (rnm 0 X) (rnm 0 Y))) (rap Y R):=by
 have h1:=ha.norm_;have h2:=hb.norm_;obtain⟨m1,m2,m3⟩:=Qfq (first:=first) (X:=rnm 0 X) (Y:=rnm 0 Y) (R:=R) h1.was_ h2.was_;rw[ha.rap_norm,hb.rap_norm] at m1;have l1:=Jm ha.was_;have l2:=Jm hb.was_;have w1:=(Qfv 0 X).2;have w2:=(Qfv 0 Y).2;rw[Jn 0 _ _ (by omega),Jn 0 _ _ (by omega)];exact m1.symm
end
section
open Go.RowKit
open Classical in
noncomputable def dec (s:U.Bs):List Int:=if h:∃ R,U.AllR R∧s=U.encs R then Classical.choose h else []
theorem Qr9 {R:List Int}(h:U.AllR R):dec (U.encs R)=R:=by
 have hx:∃ S,U.AllR S∧U.encs R=U.encs S:=⟨R,h,rfl⟩;unfold dec;rw[dif_pos hx];obtain⟨h1,h2⟩:=Classical.choose_spec hx;exact (Qbh h h1 h2).symm
noncomputable def rpl (b:List PT)(R:List Int):List Int:=dec (apr b (U.encs R))
theorem YG {b:List PT}{X:List (RU Int)}{R:List Int}(h:OpR b X R)(hR:U.AllR R):rpl b R=rap X R:=by
 unfold rpl;rw[(h.apply hR).2,Qr9 (QW h.allP hR)]
def cml (a b:List PT):List PT:=YR (cm (Qi a) (Qi b))
theorem Qsa {la lb:List PT}{X Y:List (RU Int)}{R:List Int}(hA:OpR la X R)(hB:OpR lb Y (rap X R)):OpR (cml la lb) (rnm 0 (rcm X Y)) R:=by
 have hy:Qc Y=Qh X:=by rw[hB.was_,Jm hA.was_]
 have e2:cm (Qi la) (Qi lb)=Qf (rcm X Y) R:=by rw[hA.expand_,hB.expand_,Qkt hA.was_ hy]
 have hl:Qc (rcm X Y)=R.length:=by rw[(Qfr hy).1,hA.was_]
 have hp:Xj (rcm X Y):=fun r hr=>by
  rcases Qwu hr with h | h
  ·exact hA.allP r h
  ·exact hB.allP r h
 unfold cml;rw[e2];exact Qb1 hl hp
theorem Qsb {la lb:List PT}{X Y:List (RU Int)}{R:List Int}(hA:OpR la X R)(hB:OpR lb Y (rap X R)):rap (rnm 0 (rcm X Y)) R=rap Y (rap X R):=by
 have hy:Qc Y=Qh X:=by rw[hB.was_,Jm hA.was_]
 rw[Jn 0 _ _ (by rw[(Qfr hy).1,hA.was_];omega),List.drop_zero,Qm4 hA.was_ hy]
noncomputable def tnc (R:List Int)(l:List PT)(u tu:Int):List PT × Int :=
 if ¬ ((1≤u∧u≤3)∧(1≤tu∧tu≤3)) then ([],1)
 else if chk l ((cnt R).of u)≠0 then ([],chk l ((cnt R).of u))
 else (if (tnF R u tu Cn.zero 0 l).2=0 then (tnF R u tu Cn.zero 0 l).1 else [],(tnF R u tu Cn.zero 0 l).2)
theorem Qhg (R:List Int)(l:List PT)(u tu:Int):TnR R l u tu (tnc R l u tu).1 (tnc R l u tu).2:=by
 unfold tnc;refine⟨fun h=>?_,fun h hc=>?_,fun h hc=>?_⟩
 ·rw[if_pos h];exact⟨rfl,rfl⟩
 ·rw[if_neg (fun h'=>h' h),if_pos hc];exact⟨rfl,rfl⟩
 ·rw[if_neg (fun h'=>h' h),if_neg (fun h'=>h' hc)];exact⟨rfl,rfl⟩
theorem Qsc {R:List Int}{l o:List PT}{u tu k:Int}(h:TnR R l u tu o k):o=(tnc R l u tu).1∧k=(tnc R l u tu).2:=h.unique (Qhg R l u tu)
theorem Qsd {R P Q:List Int}{u:Int}{l:List PT}{X:List (RU Int)}(hu:1≤u∧u≤3)(hR:R=P++Q)(h:OpR l X Q) :
  ∃ l',tnF R 1 u (cnt P) ((cnt P).of 1) l=(l',0)∧tnF R u 1 (cnt P) ((cnt P).of u) l'=(l,0)∧(∀ p∈l',p.Good)∧was l'=(cnt Q).of u∧Qd l'=Qd l∧l'.length=l.length:=by
 induction h generalizing P with
 | nil=>exact⟨[],rfl,rfl,fun p hp=>by simp at hp,by rw[QQ,ZC];rfl,rfl,rfl⟩
 | @put rs l X Q h1 h2 h3 ih =>
  obtain⟨l',i1,i2,i3,i4,i5,i6⟩:=ih hR;have hA:∀ v:Int,1≤v∧v≤3→Q3 v ((cnt P).of v+((⟨0,0,U.encs rs⟩:PT).keep+(⟨0,0,U.encs rs⟩:PT).drop)) R (cnt P) (erV 0):=fun v hv=>Pl.ahead hv ⟨P,Q,hR,by dsimp only;omega,rfl⟩
  have e0:∀ v:Int,(cnt P).of v+((⟨0,0,U.encs rs⟩:PT).keep+(⟨0,0,U.encs rs⟩:PT).drop)=(cnt P).of v:=fun v=>by dsimp only;omega
  have hg:(⟨0,0,U.encs rs⟩:PT).Good:=⟨PT.arg_put (ZZ h1),rs,U.sp_encs h2⟩;refine⟨⟨0,0,U.encs rs⟩ :: l',?_,?_,?_,?_,?_,?_⟩
  ·rw[YJ (hA 1 (by decide)),Jz,e0,i1]
  ·rw[YJ (hA u hu),Jz,e0,i2]
  ·intro p hp;rcases Wbk.1 hp with rfl | hp
   ·exact hg
   ·exact i3 p hp
  ·rw[was,i4];dsimp only;omega
  ·rw[Qd,Qd,i5]
  ·rw[Wan,Wan,i6]
 | @keep d l X Q h1 h3 ih =>
  obtain⟨l',i1,i2,i3,i4,i5,i6⟩:=ih (P:=P++d) (by rw[hR,Wah]);have hd0:=ZQ h1
  have hn:0<(cnt d).of u:=by
   have:=Y5 d hu
   have:=Wax.2 h1
   omega
  obtain⟨n,hn'⟩:=Was (show 0≤(cnt d).of u by omega);have hA:∀ (v:Int) (p:PT),1≤v∧v≤3→p.keep+p.drop=(cnt d).of v→Q3 v ((cnt P).of v+(p.keep+p.drop)) R (cnt (P++d)) (erV 0):=fun v p hv hp=>Pl.ahead hv ⟨P++d,Q,by rw[hR,Wah],by rw[Qp,hp],rfl⟩
  refine⟨⟨(cnt d).of u,0,[]⟩ :: l',?_,?_,?_,?_,?_,?_⟩
  ·rw[YJ (hA 1 _ (by decide) (by rw[ZH];simp)),J3 hd0];have e1:(cnt P).of 1+((⟨(bl d:Int),0,[]⟩:PT).keep+(⟨(bl d:Int),0,[]⟩:PT).drop)=(cnt (P++d)).of 1:=by rw[Qp,ZH d];simp
   rw[e1,i1,Qp];simp
   try omega
  ·rw[hn',YJ (hA u _ hu (by rw[hn'];simp)),J3 (by omega)];have e1:(cnt P).of u+((⟨(n:Int),0,[]⟩:PT).keep+(⟨(n:Int),0,[]⟩:PT).drop)=(cnt (P++d)).of u:=by rw[Qp,hn'];simp
   rw[show ((n:Nat):Int)=Int.ofNat n from rfl] at e1 ⊢;rw[e1,i2,Qp,ZH d];simp
   try omega
  ·intro p hp;rcases Wbk.1 hp with rfl | hp
   ·exact⟨PT.arg_keep hn,[],JM⟩
   ·exact i3 p hp
  ·rw[was,i4,Qp];dsimp only;try omega
  ·rw[Qd,Qd,i5]
  ·rw[Wan,Wan,i6]
 | @drop d l X Q h1 h3 ih =>
  obtain⟨l',i1,i2,i3,i4,i5,i6⟩:=ih (P:=P++d) (by rw[hR,Wah]);have hd0:=ZQ h1
  have hn:0<(cnt d).of u:=by
   have:=Y5 d hu
   have:=Wax.2 h1
   omega
  obtain⟨n,hn'⟩:=Was (show 0≤(cnt d).of u by omega);have hA:∀ (v:Int) (p:PT),1≤v∧v≤3→p.keep+p.drop=(cnt d).of v→Q3 v ((cnt P).of v+(p.keep+p.drop)) R (cnt (P++d)) (erV 0):=fun v p hv hp=>Pl.ahead hv ⟨P++d,Q,by rw[hR,Wah],by rw[Qp,hp],rfl⟩
  refine⟨⟨0,(cnt d).of u,[]⟩ :: l',?_,?_,?_,?_,?_,?_⟩
  ·rw[YJ (hA 1 _ (by decide) (by rw[ZH];simp)),J2 hd0];have e1:(cnt P).of 1+((⟨0,(bl d:Int),[]⟩:PT).keep+(⟨0,(bl d:Int),[]⟩:PT).drop)=(cnt (P++d)).of 1:=by rw[Qp,ZH d];simp
   rw[e1,i1,Qp];simp
   try omega
  ·rw[hn',YJ (hA u _ hu (by rw[hn'];simp)),J2 (by omega)];have e1:(cnt P).of u+((⟨0,(n:Int),[]⟩:PT).keep+(⟨0,(n:Int),[]⟩:PT).drop)=(cnt (P++d)).of u:=by rw[Qp,hn'];simp
   rw[show ((n:Nat):Int)=Int.ofNat n from rfl] at e1 ⊢;rw[e1,i2,Qp,ZH d];simp
   try omega
  ·intro p hp;rcases Wbk.1 hp with rfl | hp
   ·exact⟨PT.arg_drop hn,[],JM⟩
   ·exact i3 p hp
  ·rw[was,i4,Qp];dsimp only;try omega
  ·rw[Qd,Qd,i5]
  ·rw[Wan,Wan,i6]
theorem Qse {R:List Int}{u k:Int}{l o:List PT}{X:List (RU Int)}(hu:1≤u∧u≤3)(h:OpR l X R)(ht:TnR R l 1 u o k):k=0∧TnR R o u 1 l 0∧Qd o=Qd l∧o.length=l.length:=by
 obtain⟨l',t1,t2,t3,t4,t5,t6⟩:=Qsd (R:=R) (P:=[]) (Q:=R) hu rfl h;have z:((cnt ([]:List Int)).of u)=0:=by rw[QQ,ZC]
 have z1:((cnt ([]:List Int)).of 1)=0:=by rw[QQ,ZC]
 rw[z1,QQ] at t1;rw[z,QQ] at t2;have hc:chk l ((cnt R).of 1)=0:=by rw[ZH];exact h.chk_
 obtain⟨e1,e2⟩:=ht.2.2 ⟨by decide,hu⟩ hc;rw[t1] at e1 e2;dsimp only at e1 e2;subst e1;rw[if_pos rfl] at e2;subst e2;refine⟨rfl,⟨fun h'=>absurd ⟨hu,by decide⟩ h',fun _ h'=>absurd (Jp t3 t4) h',fun _ _=>?_⟩,t5,t6⟩;rw[t2]
 exact⟨rfl,rfl⟩
theorem Qda {a b:List PT}{X Y:List (RU Int)}{R:List Int}(first:Bool)(ha:OpR a X R)(hb:OpR b Y R) :
  ∃ X' Y',OpR (trl first a b) X' (rap Y R)∧OpR (trl (!first) b a) Y' (rap X R)∧rap X' (rap Y R)=rap Y' (rap X R)∧Qd (trl first a b)=Qd a∧Qd (trl (!first) b a)=Qd b:=by
 have h1:=Qdu (first:=first) ha hb;have h2:=Qdu (first:=!first) hb ha
 exact⟨_,_,h1,h2,(Qj1 (first:=first) ha hb).symm,Qec h1 ha hb,Qec h2 hb ha⟩
structure CV where
 who:Int
 unit:Int
 doc:List Int
 seen:List Int
 rev:Nat
 id:Int
 way:List PT
 waits:List PT
 has:Bool
 more:Bool
 dropped:Int
noncomputable def CV.edit (c:CV)(l:List PT):Int × CV :=
 if 60<l.length∨∃ p∈l,200<p.put.length then (4,c)
 else if (tnc c.doc l c.unit 1).2≠0 then ((tnc c.doc l c.unit 1).2,c)
 else if 2000<comes (tnc c.doc l c.unit 1).1 then (12,c)
 else (0,{ c with
  doc:=rpl (tnc c.doc l c.unit 1).1 c.doc
  id:=if c.has then c.id else c.id+1
  way:=if c.has then c.way else (tnc c.doc l c.unit 1).1
  has:=true
  waits:=if c.has then (if c.more then cml c.waits (tnc c.doc l c.unit 1).1 else (tnc c.doc l c.unit 1).1) else c.waits
  more:=c.has })
noncomputable def CV.own (c:CV)(e:EN):CV :=
 { c with seen:=rpl e.op c.seen,rev:=c.rev+1,way:=c.waits,has:=c.more,waits:=[],more:=false,id:=if c.more then c.id+1 else c.id }
def CV.past (c:CV)(e:EN):List PT:=if c.has then trl true e.op c.way else e.op
def CV.over (c:CV)(e:EN):List PT:=if c.more then trl true (c.past e) c.waits else c.past e
noncomputable def CV.other (c:CV)(e:EN):CV :=
 { c with
  seen:=rpl e.op c.seen
  rev:=c.rev+1
  way:=if c.has then trl false c.way e.op else c.way
  waits:=if c.more then trl false c.waits (c.past e) else c.waits
  doc:=rpl (c.over e) c.doc }
def CV.isOwn (c:CV)(e:EN):Prop:=e.who=c.who∧c.has=true∧e.id=c.id
instance (c:CV) (e:EN):Decidable (c.isOwn e):=by unfold CV.isOwn;infer_instance
noncomputable def CV.take (c:CV)(rev:Int)(e:EN):CV:=if rev≠c.rev then c else if c.isOwn e then c.own e else c.other e
def CV.refused (c:CV)(id:Int):CV :=
 if c.has=true∧id=c.id then { c with doc:=c.seen,has:=false,more:=false,way:=[],waits:=[],dropped:=c.dropped+1 } else c
structure COk (T:Int)(c:CV):Prop where
 u:1≤c.unit∧c.unit≤3
 all:U.AllR c.seen
 sz:bl c.seen≤2000
 no:c.has=false→c.more=false∧c.way=[]∧c.doc=c.seen
 nm:c.more=false→c.waits=[]
 yes:c.has=true→∃ X,OpR c.way X c.seen∧Qd c.way≤2000∧(c.more=false→c.doc=rap X c.seen)∧(c.more=true→∃ Y,OpR c.waits Y (rap X c.seen)∧Qd c.waits≤2000∧c.doc=rap Y (rap X c.seen))
 id1:0≤c.id∧c.id+(if c.more then 1 else 0)≤T
 dr:0≤c.dropped∧c.dropped+(if c.has then 1 else 0)≤T
theorem COk.doc_ {T:Int}{c:CV}(h:COk T c):U.AllR c.doc∧bl c.doc≤6000:=by
 have h1:=h.sz
 cases hh:c.has
 ·obtain⟨-,-,e⟩:=h.no hh;rw[e]
  exact⟨h.all,by omega⟩
 ·obtain⟨X,hX,hp,hn,hy⟩:=h.yes hh;have b1:=hX.bounds;have a1:=QW hX.allP h.all
  cases hm:c.more
  ·rw[hn hm];exact⟨a1,by omega⟩
  ·obtain⟨Y,hY,hq,e⟩:=hy hm;have b2:=hY.bounds;rw[e];exact⟨QW hY.allP a1,by omega⟩
theorem COk.mono {T T':Int}{c:CV}(h:COk T c)(ht:T≤T'):COk T' c :=
 ⟨h.u,h.all,h.sz,h.no,h.nm,h.yes,⟨h.id1.1,by have:=h.id1.2;omega⟩,⟨h.dr.1,by have:=h.dr.2;omega⟩⟩
theorem COk.turned {T:Int}{c:CV}(h:COk T c){l:List PT}(hk:(tnc c.doc l c.unit 1).2=0):∃ X,OpR (tnc c.doc l c.unit 1).1 X c.doc∧Qd (tnc c.doc l c.unit 1).1=Qd l∧(tnc c.doc l c.unit 1).1.length=l.length:=by
 have ht:=Qhg c.doc l c.unit 1;rw[hk] at ht;obtain⟨⟨X,hX⟩,h2,h3,-⟩:=Qct h.u ht
 exact⟨X,hX,h2,h3⟩
theorem COk.edit {T:Int}{c:CV}(h:COk T c)(l:List PT):COk (T+1) (c.edit l).2:=by
 unfold CV.edit
 split
 ·exact h.mono (by omega)
 split
 ·exact h.mono (by omega)
 split
 ·exact h.mono (by omega)
 rename_i h1 h2 h3
 have h2:=Decidable.not_not.1 h2;obtain⟨Z,hZ,-,-⟩:=h.turned h2;obtain⟨hA,hB⟩:=h.doc_;generalize (tnc c.doc l c.unit 1).1=b at *;have hpc:=Qbg hZ.args;have hpl:Qd b≤2000:=by omega
 rw[YG hZ hA];have hid:=h.id1;have hdr:=h.dr;refine⟨h.u,h.all,h.sz,fun e=>by simp at e,fun e=>?_,fun _=>?_,?_,?_⟩
 ·dsimp only at e ⊢;rw[e];exact h.nm (h.no e).1
 ·dsimp only
  cases hh:c.has
  ·obtain⟨hm,hw,hd⟩:=h.no hh;rw[hd] at hZ
   exact⟨Z,by simpa using hZ,by simpa using hpl,fun _=>by rw[hd],fun e=>by simp at e⟩
  ·obtain⟨X,hX,hp,hn,hy⟩:=h.yes hh;refine⟨X,by simpa using hX,by simpa using hp,fun e=>by simp at e,fun _=>?_⟩
   cases hm:c.more
   ·rw[hn hm] at hZ
    exact⟨Z,by simpa using hZ,by simpa using hpl,by rw[hn hm]⟩
   ·obtain⟨Y,hY,hq,hd⟩:=hy hm;rw[hd] at hZ;have hC:=Qsa hY hZ;have hR:=Qsb hY hZ;refine⟨_,by simpa using hC,?_,by rw[hR,hd]⟩;have e1:=hZ.sizes.2;have e2:=hC.sizes.2;rw[hR] at e2
    have:=Qbg hC.args
    simp only[if_true];omega
 ·dsimp only
  cases hh:c.has<;>simp<;>(cases hm:c.more<;>simp[hm] at hid)<;>omega
 ·dsimp only
  cases hh:c.has<;>simp[hh] at hdr ⊢<;>omega
structure Fit_ (c:CV)(e:EN)(Z:List (RU Int)):Prop where
 op:OpR e.op Z c.seen
 sz:bl (rap Z c.seen)≤2000
 own:c.isOwn e→e.op=c.way
theorem COk.own_ {T:Int}{c:CV}{e:EN}{Z:List (RU Int)}(h:COk T c)(hf:Fit_ c e Z)(ho:c.isOwn e):COk T (c.own e)∧(c.own e).seen=rap Z c.seen:=by
 have hh:=ho.2.1;obtain⟨X,hX,hp,hn,hy⟩:=h.yes hh;have hw:=hf.own ho;have hs:=YG hf.op h.all;have hs2:rap X c.seen=rap Z c.seen:=by rw[← YG hX h.all,← hw,hs]
 rw[hs2] at hn hy;have hid:=h.id1;have hdr:=h.dr;refine⟨⟨h.u,?_,?_,fun e1=>?_,fun _=>rfl,fun e1=>?_,?_,?_⟩,hs⟩
 ·show U.AllR (rpl e.op c.seen)
  rw[hs];exact QW hf.op.allP h.all
 ·show bl (rpl e.op c.seen)≤2000
  rw[hs];exact hf.sz
 ·show false=false∧c.waits=[]∧c.doc=rpl e.op c.seen
  have e1:c.more=false:=e1
  exact⟨rfl,h.nm e1,by rw[hs,hn e1]⟩
 ·have e1:c.more=true:=e1;obtain⟨Y,hY,hq,hd⟩:=hy e1;refine⟨Y,?_,hq,fun _=>?_,fun e2=>by cases e2⟩
  ·show OpR c.waits Y (rpl e.op c.seen)
   rw[hs];exact hY
  ·show c.doc=rap Y (rpl e.op c.seen)
   rw[hs];exact hd
 ·show 0≤(if c.more then c.id+1 else c.id)∧(if c.more then c.id+1 else c.id)+(if false then 1 else 0)≤T
  cases hm:c.more<;>simp[hm] at hid ⊢<;>omega
 ·show 0≤c.dropped∧c.dropped+(if c.more then 1 else 0)≤T
  rw[hh] at hdr
  cases hm:c.more<;>simp at hdr ⊢<;>omega
theorem COk.over_ {T:Int}{c:CV}{e:EN}{Z:List (RU Int)}(h:COk T c)(hf:Fit_ c e Z) :
  (∃ V,OpR (c.over e) V c.doc∧Qd (c.over e)=Qd e.op)∧(∀ X,c.has=true→OpR c.way X c.seen→∃ V,OpR (c.past e) V (rap X c.seen)∧Qd (c.past e)=Qd e.op)∧COk T (c.other e)∧(c.other e).seen=rap Z c.seen:=by
 have hs:=YG hf.op h.all;have hS:(c.other e).seen=rap Z c.seen:=hs;have hA:U.AllR (c.other e).seen:=by rw[hS];exact QW hf.op.allP h.all
 obtain⟨dA,dB⟩:=h.doc_
 have pastX:∀ X,c.has=true→OpR c.way X c.seen→∃ V,OpR (c.past e) V (rap X c.seen)∧Qd (c.past e)=Qd e.op:=fun X hh hX=>by
  obtain⟨V,W,h1,h2,h3,h4,h5⟩:=Qda true hf.op hX;unfold CV.past;rw[if_pos hh]
  exact⟨V,h1,h4⟩
 cases hh:c.has
 ·obtain⟨hm,hw,hd⟩:=h.no hh;have e1:c.over e=e.op:=by unfold CV.over CV.past;rw[hm,hh];rfl
  refine⟨⟨Z,by rw[e1,hd];exact hf.op,by rw[e1]⟩,fun X e2=>absurd e2 (by simp),⟨h.u,hA,by rw[hS];exact hf.sz,fun _=>⟨hm,?_,?_⟩,fun _=>?_,fun e2=>?_,h.id1,h.dr⟩,hS⟩
  ·show (if c.has then trl false c.way e.op else c.way)=[]
   rw[hh];exact hw
  ·show rpl (c.over e) c.doc=rpl e.op c.seen
   rw[e1,hd]
  ·show (if c.more then trl false c.waits (c.past e) else c.waits)=[]
   rw[hm];exact h.nm hm
  ·have e2:c.has=true:=e2;rw[hh] at e2;cases e2
 ·obtain⟨X,hX,hp,hn,hy⟩:=h.yes hh;obtain⟨W,V,h1,h2,h3,h4,h5⟩:=Qda false hX hf.op;have e1:c.past e=trl true e.op c.way:=by unfold CV.past;rw[if_pos hh]
  have h2:OpR (c.past e) V (rap X c.seen):=by rw[e1];exact h2
  have h5:Qd (c.past e)=Qd e.op:=by rw[e1];exact h5
  have aX:=QW hX.allP h.all
  cases hm:c.more
  ·have hd:=hn hm;have e2:c.over e=c.past e:=by unfold CV.over;rw[hm];rfl
   refine⟨⟨V,by rw[e2,hd];exact h2,by rw[e2,h5]⟩,fun X' _ hX'=>pastX X' hh hX',⟨h.u,hA,by rw[hS];exact hf.sz,fun e3=>?_,fun _=>?_,fun _=>⟨W,?_,?_,fun _=>?_,fun e3=>?_⟩,h.id1,h.dr⟩,hS⟩
   ·have e3:c.has=false:=e3;rw[hh] at e3;cases e3
   ·show (if c.more then trl false c.waits (c.past e) else c.waits)=[]
    rw[hm];exact h.nm hm
   ·show OpR (if c.has then trl false c.way e.op else c.way) W (rpl e.op c.seen)
    rw[hh,hs];exact h1
   ·show Qd (if c.has then trl false c.way e.op else c.way)≤2000
    rw[hh];exact Wbf (Nat.le_of_eq h4) hp
   ·show rpl (c.over e) c.doc=rap W (rpl e.op c.seen)
    rw[e2,hd,YG h2 aX,hs,h3]
   ·have e3:c.more=true:=e3;rw[hm] at e3;cases e3
  ·obtain⟨Y,hY,hq,hd⟩:=hy hm;obtain⟨W2,V2,g1,g2,g3,g4,g5⟩:=Qda false hY h2;have e2:c.over e=trl true (c.past e) c.waits:=by unfold CV.over;rw[if_pos hm]
   have g2:OpR (c.over e) V2 (rap Y (rap X c.seen)):=by rw[e2];exact g2
   have g5:Qd (c.over e)=Qd e.op:=by rw[e2,← h5];exact g5
   refine⟨⟨V2,by rw[hd];exact g2,g5⟩,fun X' _ hX'=>pastX X' hh hX',⟨h.u,hA,by rw[hS];exact hf.sz,fun e3=>?_,fun e3=>?_,fun _=>⟨W,?_,?_,fun e3=>?_,fun _=>⟨W2,?_,?_,?_⟩⟩,h.id1,h.dr⟩,hS⟩
   ·have e3:c.has=false:=e3;rw[hh] at e3;cases e3
   ·have e3:c.more=false:=e3;rw[hm] at e3;cases e3
   ·show OpR (if c.has then trl false c.way e.op else c.way) W (rpl e.op c.seen)
    rw[hh,hs];exact h1
   ·show Qd (if c.has then trl false c.way e.op else c.way)≤2000
    rw[hh];exact Wbf (Nat.le_of_eq h4) hp
   ·have e3:c.more=false:=e3;rw[hm] at e3;cases e3
   ·show OpR (if c.more then trl false c.waits (c.past e) else c.waits) W2 (rap W (rpl e.op c.seen))
    rw[hm,hs,h3];exact g1
   ·show Qd (if c.more then trl false c.waits (c.past e) else c.waits)≤2000
    rw[hm];exact Wbf (Nat.le_of_eq g4) hq
   ·show rpl (c.over e) c.doc=rap W2 (rap W (rpl e.op c.seen))
    rw[hd,YG g2 (QW hY.allP aX),hs,h3,g3]
theorem COk.refused {T:Int}{c:CV}(h:COk T c)(id:Int):COk T (c.refused id):=by
 unfold CV.refused
 split
 ·rename_i hc
  have hid:=h.id1;have hdr:=h.dr;rw[hc.1] at hdr;refine⟨h.u,h.all,h.sz,fun _=>⟨rfl,rfl,rfl⟩,fun _=>rfl,(fun e=>by cases e),?_,?_⟩
  ·dsimp only
   cases hm:c.more<;>simp[hm] at hid ⊢<;>omega
  ·dsimp only;simp at hdr ⊢;omega
 ·exact h
end
section
open Go.RowKit
structure PK where
 kind:Int
 k:Nat
 rev:Int
 id:Int
 en:EN
structure RM where
 srv:SV
 cl:List CV
 way:List PK
 lost:Int
def RM.send (r:RM)(p:PK):RM:=if 400≤r.way.length then { r with lost:=r.lost+1 } else { r with way:=r.way++[p] }
def Zg:EN:=⟨0,0,[]⟩
def QF (k:Nat):Nat→List EN→List PK
 | _,[]=>[]
 | n,e :: l=>⟨3,k,n,0,e⟩ :: QF k (n+1) l
def RM.sends (r:RM)(l:List PK):RM:=l.foldl RM.send r
def RM.tells (r:RM)(k:Nat)(rev:Int):RM:=if 0≤rev∧rev≤(r.srv.log.length:Int) then r.sends (QF k rev.toNat (r.srv.log.drop rev.toNat)) else r
def RM.setc (r:RM)(k:Nat)(c:CV):RM:={ r with cl:=r.cl.set k c }
noncomputable def RM.comes (r:RM)(p:PK):RM :=
 if p.kind=1 then
  let t:=r.srv.take p.k p.id p.rev p.en.op
  let r1:=({ r with srv:=t.2 }:RM).tells p.k p.rev
  if t.1≠0∧t.1≠8 then r1.send ⟨4,p.k,(t.2.log.length:Int),p.id,Zg⟩ else r1
 else if p.kind=2 then r.tells p.k p.rev
 else if p.kind=3 then (match r.cl[p.k]? with | some c=>r.setc p.k (c.take p.rev p.en) | none=>r)
 else if p.kind=4 then (match r.cl[p.k]? with | some c=>r.setc p.k (c.refused p.id) | none=>r)
 else r
def RM.out (r:RM)(i:Nat):RM:={ r with way:=r.way.eraseIdx i }
noncomputable def RM.deliver (r:RM)(i:Nat):RM:=match r.way[i]? with | some p=>(r.out i).comes p | none=>r
def RM.again (r:RM)(i:Nat):RM:=match r.way[i]? with | some p=>r.send p | none=>r
def CV.asks (c:CV)(k:Nat):PK:=if c.has then ⟨1,k,c.rev,c.id,⟨k,c.id,c.way⟩⟩ else ⟨2,k,c.rev,0,Zg⟩
def RM.asks (r:RM)(k:Nat):RM:=match r.cl[k]? with | some c=>r.send (c.asks k) | none=>r
noncomputable def RM.edit (r:RM)(k:Nat)(l:List PT):RM:=match r.cl[k]? with | some c=>r.setc k (c.edit l).2 | none=>r
def SV.seg (S:SV)(a b:Nat):List EN:=(S.log.drop a).take (b-a)
structure CKok (N:Int)(S:SV)(k:Nat)(c:CV):Prop where
 who:c.who=k
 ok:COk N c
 rev:c.rev≤S.log.length
 seen:S.docs[c.rev]?=some (U.encs c.seen)
 own:∀ n e,c.rev≤n→S.log[n]?=some e→e.who=k→c.has=true→e.id=c.id→e.op=Q5 c.way (S.seg c.rev n)
 idl:∀ (n:Nat) e,S.log[n]?=some e→e.who=k→e.id≤c.id
 lst:∀ i x,S.last k=some (i,x)→i≤c.id
 acc:∀ i x,S.last k=some (i,x)→i=c.id→x=0→c.has=true→∃ n e,c.rev≤n∧S.log[n]?=some e∧e.who=k∧e.id=c.id
structure PKok (S:SV)(c:CV)(p:PK):Prop where
 kd:p.kind=1∨p.kind=2∨p.kind=3∨p.kind=4
 rv:0≤p.rev∧p.rev≤(S.log.length:Int)
 ask:p.kind=1→0≤p.id∧p.id≤c.id∧(∀ q∈p.en.op,q.Good)∧was p.en.op≤2000∧Qd p.en.op≤2000∧(p.id=c.id→c.has=true→p.rev.toNat≤c.rev∧c.way=Q5 p.en.op (S.seg p.rev.toNat c.rev))
 told:p.kind=3→S.log[p.rev.toNat]?=some p.en
 tolr:p.kind=3→p.rev<(S.log.length:Int)
structure RMok (N:Int)(r:RM):Prop where
 sv:SVok r.srv
 ln:r.srv.log.length≤300
 cl:∀ k c,r.cl[k]?=some c→CKok N r.srv k c
 way:∀ p∈r.way,∃ c,r.cl[p.k]?=some c∧PKok r.srv c p
 wl:r.way.length≤400
theorem RM.send_srv (r:RM)(p:PK):(r.send p).srv=r.srv∧(r.send p).cl=r.cl:=by unfold RM.send;split<;>exact⟨rfl,rfl⟩
theorem RM.send_way (r:RM)(p:PK):∀ q∈(r.send p).way,q∈r.way∨q=p:=by
 intro q hq;unfold RM.send at hq
 split at hq
 ·exact .inl hq
 ·rcases List.mem_append.1 hq with h | h
  ·exact .inl h
  ·exact .inr (Wbd.1 h)
theorem RMok.send {N:Int}{r:RM}(h:RMok N r){p:PK}(hp:∃ c,r.cl[p.k]?=some c∧PKok r.srv c p):RMok N (r.send p):=by
 obtain⟨h1,h2⟩:=r.send_srv p;refine⟨by rw[h1];exact h.sv,by rw[h1];exact h.ln,fun k c hc=>by rw[h1];exact h.cl k c (by rw[← h2];exact hc),fun q hq=>?_,?_⟩
 ·rw[h1,h2];rcases r.send_way p q hq with hq | rfl
  ·exact h.way q hq
  ·exact hp
 ·unfold RM.send
  split
  ·exact h.wl
  ·simp;omega
theorem RM.sends_srv (r:RM)(l:List PK):(r.sends l).srv=r.srv∧(r.sends l).cl=r.cl:=by
 induction l generalizing r with
 | nil=>exact⟨rfl,rfl⟩
 | cons p l ih =>
  obtain⟨h1,h2⟩:=ih (r.send p);obtain⟨h3,h4⟩:=r.send_srv p
  exact⟨h1.trans h3,h2.trans h4⟩
theorem RMok.sends {N:Int}{r:RM}(h:RMok N r){l:List PK}(hl:∀ p∈l,∃ c,r.cl[p.k]?=some c∧PKok r.srv c p):RMok N (r.sends l):=by
 induction l generalizing r with
 | nil=>exact h
 | cons p l ih =>
  obtain⟨h1,h2⟩:=r.send_srv p;exact ih (h.send (hl p (by simp))) (fun q hq=>by rw[h1,h2];exact hl q (by simp[hq]))
theorem Qlp {k n:Nat}{l:List EN}{p:PK}(h:p∈QF k n l):∃ i,i<l.length∧p.kind=3∧p.k=k∧p.rev=((n+i:Nat):Int)∧l[i]?=some p.en:=by
 induction l generalizing n with
 | nil=>simp[QF] at h
 | cons e l ih =>
  rw[QF] at h;rcases Wbk.1 h with rfl | h
  ·exact⟨0,by simp,rfl,rfl,by simp,by simp⟩
  ·obtain⟨i,h1,h2,h3,h4,h5⟩:=ih h
   exact⟨i+1,by simp;omega,h2,h3,by rw[h4];congr 1;omega,by simpa using h5⟩
theorem RMok.tells {N:Int}{r:RM}(h:RMok N r){k:Nat}{c:CV}(hc:r.cl[k]?=some c)(rev:Int):RMok N (r.tells k rev):=by
 unfold RM.tells
 split
 ·rename_i hr
  refine h.sends (fun p hp=>?_);obtain⟨i,h1,h2,h3,h4,h5⟩:=Qlp hp;rw[War] at h1;rw[List.getElem?_drop] at h5;refine⟨c,by rw[h3];exact hc,.inr (.inr (.inl h2)),⟨by omega,by omega⟩,fun e=>by omega,fun _=>?_,fun _=>by omega⟩;rw[h4];exact h5
 ·exact h
def JR (S:SV)(who id rev:Int)(op:List PT)(t:Int × SV):Prop :=
 (t.2.log=S.log∧t.2.docs=S.docs∧(t.2.last=S.last∨(t.1≠0∧(∀ i x,S.last who=some (i,x)→i<id)∧t.2.last=fun x=>if x=who then some (id,t.1) else S.last x))) ∨
  (t.1=0∧0≤rev∧rev≤(S.log.length:Int)∧S.log.length<300∧chk op (((S.docs[rev.toNat]?).getD []).length:Nat)=0∧t.2.log=S.log++[⟨who,id,Q5 op (S.log.drop rev.toNat)⟩] ∧
   (∃ d,t.2.docs=S.docs++[d])∧t.2.last=(fun x=>if x=who then some (id,0) else S.last x)∧∀ i x,S.last who=some (i,x)→i<id)
theorem SV.take_spec (S:SV)(who id rev:Int)(op:List PT):JR S who id rev op (S.take who id rev op):=by
 have hd:((S.does who id rev op).1≠0∧(S.does who id rev op).2=S)∨((S.does who id rev op).1=0∧0≤rev∧rev≤(S.log.length:Int)∧S.log.length<300∧chk op (((S.docs[rev.toNat]?).getD []).length:Nat)=0 ∧
   (S.does who id rev op).2.log=S.log++[⟨who,id,Q5 op (S.log.drop rev.toNat)⟩]∧∃ d,(S.does who id rev op).2.docs=S.docs++[d]):=by
  unfold SV.does
  split
  ·exact .inl ⟨(by decide:(2:Int)≠0),rfl⟩
  split
  ·exact .inl ⟨(by decide:(4:Int)≠0),rfl⟩
  split
  ·rename_i h;exact .inl ⟨h,rfl⟩
  split
  ·rename_i h;exact .inl ⟨h,rfl⟩
  split
  ·exact .inl ⟨(by decide:(12:Int)≠0),rfl⟩
  ·rename_i h1 h2 h3 h4 h5
   exact .inr ⟨rfl,by omega,by omega,by omega,Decidable.not_not.1 h3,rfl,_,rfl⟩
 have hf:(∀ i x,S.last who=some (i,x)→i<id)→JR S who id rev op (S.fresh who id rev op):=fun hlt=>by
  unfold SV.fresh;rcases hd with ⟨h1,h2⟩ | ⟨h1,h2,h3,h4,h5,h6,h7⟩
  ·exact .inl ⟨by dsimp only;rw[h2],by dsimp only;rw[h2],.inr ⟨h1,hlt,rfl⟩⟩
  ·exact .inr ⟨h1,h2,h3,h4,h5,h6,h7,by dsimp only;rw[h1],hlt⟩
 cases hl:S.last who with
 | none =>
  have e:S.take who id rev op=S.fresh who id rev op:=by unfold SV.take;rw[hl]
  rw[e];exact hf (fun i x h=>by rw[hl] at h;cases h)
 | some y =>
  obtain⟨i,x⟩:=y
  by_cases h1:id<i
  ·have e:S.take who id rev op=(8,S):=by unfold SV.take;rw[hl];dsimp only;rw[if_pos h1]
   rw[e];exact .inl ⟨rfl,rfl,.inl rfl⟩
  ·by_cases h2:id=i
   ·have e:S.take who id rev op=(x,S):=by unfold SV.take;rw[hl];dsimp only;rw[if_neg h1,if_pos h2]
    rw[e];exact .inl ⟨rfl,rfl,.inl rfl⟩
   ·have e:S.take who id rev op=S.fresh who id rev op:=by unfold SV.take;rw[hl];dsimp only;rw[if_neg h1,if_neg h2]
    rw[e];refine hf (fun j y h=>?_);rw[hl] at h
    cases h
    omega
theorem Qlq (op:List PT)(a b:List EN):Q5 op (a++b)=Q5 (Q5 op a) b:=by unfold Q5;rw[List.foldl_append]
theorem Qlr (L:List EN){a b:Nat}(h:a≤b):L.drop a=(L.drop a).take (b-a)++L.drop b:=by
 have e:(L.drop a).drop (b-a)=L.drop b:=by rw[List.drop_drop];congr 1;omega
 rw[← e,Wbh]
theorem Qb3 {S S':SV}{E:EN}(hl:S'.log=S.log++[E]){a b:Nat}(hb:b≤S.log.length):S'.seg a b=S.seg a b:=by
 unfold SV.seg;rw[hl]
 by_cases ha:a≤S.log.length
 ·rw[List.drop_append_of_le_length ha,List.take_append_of_le_length (by rw[War];omega)]
 ·rw[show b-a=0 from by omega,List.take_zero,List.take_zero]
theorem Qls {S S':SV}{E:EN}(hl:S'.log=S.log++[E]){a:Nat}(_ha:a≤S.log.length):S'.seg a S.log.length=S.log.drop a:=by
 rw[Qb3 hl (Wak _)];unfold SV.seg;rw[List.take_of_length_le (by rw[War];omega)]
def Qlt (S:SV)(c:CV)(id rev:Int)(op:List PT):Prop:=id≤c.id∧(id=c.id→c.has=true→rev.toNat≤c.rev∧c.way=Q5 op (S.seg rev.toNat c.rev))
theorem CKok.served {N:Int}{S:SV}{k:Nat}{c:CV}{who id rev:Int}{op:List PT}{t:Int × SV}(h:CKok N S k c)(hS:S.docs.length=S.log.length+1)(hp:(k:Int)=who→Qlt S c id rev op)(ht:JR S who id rev op t):CKok N t.2 k c:=by
 obtain⟨x,S'⟩:=t;rcases ht with ⟨h1,h2,h3⟩ | ⟨h1,h2,h3,h4,h5,h6,⟨d,h7⟩,h8,h9⟩
 ·dsimp only at h1 h2 h3 ⊢;have hseg:∀ a b,S'.seg a b=S.seg a b:=fun a b=>by unfold SV.seg;rw[h1]
  refine⟨h.who,h.ok,by rw[h1];exact h.rev,by rw[h2];exact h.seen,fun n e=>by rw[h1,hseg];exact h.own n e,fun n e=>by rw[h1];exact h.idl n e,fun i y hy=>?_,fun i y hy he h0 hh=>?_⟩
  ·rcases h3 with h3 | ⟨-,-,h3⟩
   ·rw[h3] at hy;exact h.lst i y hy
   ·rw[h3] at hy;dsimp only at hy
    split at hy
    ·rename_i hk
     cases hy
     exact (hp hk).1
    ·exact h.lst i y hy
  ·rw[h1];rcases h3 with h3 | ⟨hx,-,h3⟩
   ·rw[h3] at hy;exact h.acc i y hy he h0 hh
   ·rw[h3] at hy;dsimp only at hy
    split at hy
    ·cases hy
     exact absurd h0 hx
    ·exact h.acc i y hy he h0 hh
 ·dsimp only at h1 h6 h7 h8 ⊢;have hrv:=h.rev;have hlog:∀ n e,S'.log[n]?=some e→S.log[n]?=some e∨n=S.log.length∧e=⟨who,id,Q5 op (S.log.drop rev.toNat)⟩:=fun n e he=>by rw[h6] at he;exact getElem?_snoc he
  have hold:∀ n,n<S.log.length→S'.log[n]?=S.log[n]?:=fun n hn=>by rw[h6,List.getElem?_append_left hn]
  have hnew:S'.log[S.log.length]?=some ⟨who,id,Q5 op (S.log.drop rev.toNat)⟩:=by rw[h6,Way (Wak _)];simp
  have hlen:S'.log.length=S.log.length+1:=by rw[h6];simp
  refine⟨h.who,h.ok,by omega,?_,fun n e hn he hw hh hi=>?_,fun n e he hw=>?_,fun i y hy=>?_,fun i y hy he h0 hh=>?_⟩
  ·rw[h7,List.getElem?_append_left (by omega)];exact h.seen
  ·rcases hlog n e he with he | ⟨rfl,rfl⟩
   ·have hn2:=(Wai.1 he).1;rw[Qb3 h6 (by omega)];exact h.own n e hn he hw hh hi
   ·obtain⟨a1,a2⟩:=hp hw.symm;obtain⟨a3,a4⟩:=a2 hi hh;rw[Qls h6 hrv,a4,← Qlq];unfold SV.seg;rw[← Qlr _ a3]
  ·rcases hlog n e he with he | ⟨rfl,rfl⟩
   ·exact h.idl n e he hw
   ·exact (hp hw.symm).1
  ·rw[h8] at hy;dsimp only at hy
   split at hy
   ·rename_i hk
    cases hy
    exact (hp hk).1
   ·exact h.lst i y hy
  ·rw[h8] at hy;dsimp only at hy
   split at hy
   ·rename_i hk
    cases hy
    exact⟨S.log.length,_,hrv,hnew,hk.symm,he⟩
   ·obtain⟨n,e,b1,b2,b3,b4⟩:=h.acc i y hy he h0 hh
    exact⟨n,e,b1,by rw[hold n (Wai.1 b2).1];exact b2,b3,b4⟩
theorem PKok.served {S:SV}{c:CV}{p:PK}{who id rev:Int}{op:List PT}{t:Int × SV}(h:PKok S c p)(hc:c.rev≤S.log.length)(ht:JR S who id rev op t):PKok t.2 c p:=by
 obtain⟨x,S'⟩:=t;rcases ht with ⟨h1,-,-⟩ | ⟨-,-,-,-,-,h6,-,-,-⟩
 ·dsimp only at h1 ⊢;have hseg:∀ a b,S'.seg a b=S.seg a b:=fun a b=>by unfold SV.seg;rw[h1]
  exact⟨h.kd,by rw[h1];exact h.rv,fun e=>by rw[hseg];exact h.ask e,fun e=>by rw[h1];exact h.told e,fun e=>by rw[h1];exact h.tolr e⟩
 ·dsimp only at h6 ⊢;have hlen:S'.log.length=S.log.length+1:=by rw[h6];simp
  have hrv:=h.rv;refine⟨h.kd,by omega,fun e=>by rw[Qb3 h6 hc];exact h.ask e,fun e=>?_,fun e=>by have:=h.tolr e;omega⟩
  have:=h.tolr e
  rw[h6,List.getElem?_append_left (by omega)];exact h.told e
theorem CKok.mono {N N':Int}{S:SV}{k:Nat}{c:CV}(h:CKok N S k c)(hn:N≤N'):CKok N' S k c:=⟨h.who,h.ok.mono hn,h.rev,h.seen,h.own,h.idl,h.lst,h.acc⟩
theorem CV.edit_way (c:CV)(l:List PT):(c.edit l).2.who=c.who∧(c.edit l).2.rev=c.rev∧(c.edit l).2.seen=c.seen∧(c.has=true→(c.edit l).2.id=c.id∧(c.edit l).2.way=c.way∧(c.edit l).2.has=true)∧(c.has=false→(c.edit l).2=c∨(c.edit l).2.id=c.id+1)∧(c.edit l).2.unit=c.unit:=by
 unfold CV.edit
 split
 ·exact⟨rfl,rfl,rfl,fun h=>⟨rfl,rfl,h⟩,fun _=>.inl rfl,rfl⟩
 split
 ·exact⟨rfl,rfl,rfl,fun h=>⟨rfl,rfl,h⟩,fun _=>.inl rfl,rfl⟩
 split
 ·exact⟨rfl,rfl,rfl,fun h=>⟨rfl,rfl,h⟩,fun _=>.inl rfl,rfl⟩
 ·refine⟨rfl,rfl,rfl,fun h=>⟨?_,?_,rfl⟩,fun h=>.inr ?_,rfl⟩
  ·dsimp only;rw[h];rfl
  ·dsimp only;rw[h];rfl
  ·dsimp only;rw[h];rfl
theorem CKok.edit {N:Int}{S:SV}{k:Nat}{c:CV}(h:CKok N S k c)(l:List PT):CKok (N+1) S k (c.edit l).2:=by
 obtain⟨e1,e2,e3,e4,e5,-⟩:=c.edit_way l;have hk:=h.ok.edit l
 by_cases heq:(c.edit l).2=c
 ·rw[heq];exact h.mono (by omega)
 generalize (c.edit l).2=c' at *
 cases hh:c.has
 ·have e5:=(e5 hh).resolve_left heq;refine⟨by rw[e1];exact h.who,hk,by rw[e2];exact h.rev,by rw[e2,e3];exact h.seen,fun n e _ he hw _ hi=>?_,fun n e he hw=>?_,fun i x hx=>?_,fun i x hx hi _ _=>?_⟩
  ·have:=h.idl n e he hw;omega
  ·have:=h.idl n e he hw;omega
  ·have:=h.lst i x hx;omega
  ·have:=h.lst i x hx;omega
 ·obtain⟨e4,e6,e7⟩:=e4 hh;refine⟨by rw[e1];exact h.who,hk,by rw[e2];exact h.rev,by rw[e2,e3];exact h.seen,fun n e=>?_,fun n e=>by rw[e4];exact h.idl n e,fun i x=>by rw[e4];exact h.lst i x,fun i x hx hi h0 _=>?_⟩
  ·rw[e2,e4,e6];intro a b d _ f;exact h.own n e a b d hh f
  ·rw[e2,e4];rw[e4] at hi;exact h.acc i x hx hi h0 hh
theorem PKok.edit {S:SV}{c:CV}{p:PK}(h:PKok S c p)(l:List PT):PKok S (c.edit l).2 p:=by
 obtain⟨-,e2,-,e4,e5,-⟩:=c.edit_way l
 by_cases heq:(c.edit l).2=c
 ·rw[heq];exact h
 generalize (c.edit l).2=c' at *;refine⟨h.kd,h.rv,fun e=>?_,h.told,h.tolr⟩;obtain⟨a1,a2,a3,a4,a5,a6⟩:=h.ask e
 cases hh:c.has
 ·have e5:=(e5 hh).resolve_left heq
  exact⟨a1,by omega,a3,a4,a5,fun hi _=>by omega⟩
 ·obtain⟨e4,e6,e7⟩:=e4 hh
  exact⟨a1,by omega,a3,a4,a5,fun hi _=>by rw[e2,e6];exact a6 (by omega) hh⟩
theorem Qb4 (S:SV)(a:Nat):S.seg a a=[]:=by unfold SV.seg;rw[Nat.sub_self,List.take_zero]
theorem Qlu {S:SV}{a n:Nat}{e:EN}(h:S.log[a]?=some e)(hn:a<n):S.seg a n=e :: S.seg (a+1) n:=by
 unfold SV.seg;obtain⟨hl,rfl⟩:=Wai.1 h;rw[Wbl hl,show n-a=(n-(a+1))+1 from by omega,List.take_succ_cons]
theorem Qlv {S:SV}{a b:Nat}{e:EN}(h:S.log[b]?=some e)(hn:a≤b):S.seg a (b+1)=S.seg a b++[e]:=by
 unfold SV.seg;obtain⟨hl,rfl⟩:=Wai.1 h;rw[show b+1-a=(b-a)+1 from by omega,Wag (by rw[War];omega)]
 congr 2
 rw[List.getElem_drop]
 congr 1
 omega
theorem Qlw (op:List PT)(e:EN)(l:List EN):Q5 op (e :: l)=Q5 (trl false op e.op) l:=rfl
theorem CKok.fit {N:Int}{S:SV}{k:Nat}{c:CV}{e:EN}(h:CKok N S k c)(hS:SVok S)(he:S.log[c.rev]?=some e):∃ Z,Fit_ c e Z∧S.docs[c.rev+1]?=some (U.encs (rap Z c.seen)):=by
 obtain⟨R,X,h1,h2,h3,h4,h5,h6,h7⟩:=hS.entry he;have hs:=h.seen;rw[h1] at hs;obtain rfl:R=c.seen:=Qbh h2 h.ok.all (Wbg hs);refine⟨X,⟨h4,h6,fun ho=>?_⟩,h5⟩
 have:=h.own c.rev e (Wak _) he (ho.1.trans h.who) ho.2.1 ho.2.2
 rwa [Qb4,Qa9] at this
theorem CKok.take {N:Int}{S:SV}{k:Nat}{c:CV}{rev:Int}{e:EN}(h:CKok N S k c)(hS:SVok S)(he:rev=c.rev→S.log[c.rev]?=some e):CKok N S k (c.take rev e):=by
 unfold CV.take
 by_cases hr:rev=c.rev
 ·have he:=he hr;obtain⟨Z,hZ,hd⟩:=h.fit hS he;have hl:=(Wai.1 he).1;rw[if_neg (fun h=>h hr)]
  by_cases ho:c.isOwn e
  ·rw[if_pos ho];obtain⟨hk,hsn⟩:=h.ok.own_ hZ ho;have hid:c.more=true→(c.own e).id=c.id+1:=fun hm=>by unfold CV.own;dsimp only;rw[hm];rfl
   have hid2:c.id≤(c.own e).id:=by unfold CV.own;dsimp only;split<;>omega
   refine⟨h.who,hk,hl,by rw[hsn];exact hd,fun n x _ hx hw hh hi=>?_,fun n x hx hw=>?_,fun i x hx=>?_,fun i x hx hi _ hh=>?_⟩
   ·have hm:c.more=true:=hh
    have:=h.idl n x hx hw
    have:=hid hm
    omega
   ·have:=h.idl n x hx hw;omega
   ·have:=h.lst i x hx;omega
   ·have hm:c.more=true:=hh
    have:=h.lst i x hx
    have:=hid hm
    omega
  ·rw[if_neg ho];obtain⟨-,-,hk,hsn⟩:=h.ok.over_ hZ;have hway:c.has=true→(c.other e).way=trl false c.way e.op:=fun hh=>by unfold CV.other;dsimp only;rw[hh];rfl
   refine⟨h.who,hk,hl,by rw[hsn];exact hd,fun n x hn hx hw hh hi=>?_,h.idl,h.lst,fun i x hx hi h0 hh=>?_⟩
   ·have hh:c.has=true:=hh;have hn:c.rev+1≤n:=hn
    have:=h.own n x (by omega) hx hw hh hi
    rw[Qlu he (by omega),Qlw] at this;rw[hway hh];exact this
   ·obtain⟨n,y,b1,b2,b3,b4⟩:=h.acc i x hx hi h0 hh;refine⟨n,y,?_,b2,b3,b4⟩
    show c.rev+1≤n
    rcases Nat.lt_or_ge c.rev n with hc | hc
    ·exact hc
    ·obtain rfl:n=c.rev:=by omega
     rw[he] at b2
     cases b2
     exact absurd ⟨b3.trans h.who.symm,hh,b4⟩ ho
 ·rw[if_pos hr];exact h
theorem PKok.take {N:Int}{S:SV}{k:Nat}{c:CV}{p:PK}{rev:Int}{e:EN}(hp:PKok S c p)(_h:CKok N S k c)(he:rev=c.rev→S.log[c.rev]?=some e):PKok S (c.take rev e) p:=by
 unfold CV.take
 by_cases hr:rev=c.rev
 ·have he:=he hr;rw[if_neg (fun h=>h hr)];refine⟨hp.kd,hp.rv,fun ek=>?_,hp.told,hp.tolr⟩;obtain⟨a1,a2,a3,a4,a5,a6⟩:=hp.ask ek
  by_cases ho:c.isOwn e
  ·rw[if_pos ho];have hid:c.more=true→(c.own e).id=c.id+1:=fun hm=>by unfold CV.own;dsimp only;rw[hm];rfl
   have hid2:c.id≤(c.own e).id:=by unfold CV.own;dsimp only;split<;>omega
   refine⟨a1,by omega,a3,a4,a5,fun hi hh=>?_⟩;have hm:c.more=true:=hh
   have:=hid hm
   omega
  ·rw[if_neg ho];refine⟨a1,a2,a3,a4,a5,fun hi hh=>?_⟩;have hh:c.has=true:=hh;obtain⟨b1,b2⟩:=a6 hi hh;have hway:(c.other e).way=trl false c.way e.op:=by unfold CV.other;dsimp only;rw[hh];rfl
   refine⟨Nat.le_succ_of_le b1,?_⟩
   show (c.other e).way=Q5 p.en.op (S.seg p.rev.toNat (c.rev+1))
   rw[hway,Qlv he b1,Qdw,← b2]
 ·rw[if_pos hr];exact hp
theorem CKok.refused {N:Int}{S:SV}{k:Nat}{c:CV}(h:CKok N S k c)(id:Int):CKok N S k (c.refused id):=by
 have hk:=h.ok.refused id;unfold CV.refused at hk ⊢
 split at hk
 ·rename_i hc
  rw[if_pos hc]
  exact⟨h.who,hk,h.rev,h.seen,(fun n e _ _ _ hh=>by cases hh),h.idl,h.lst,(fun i x _ _ _ hh=>by cases hh)⟩
 ·rename_i hc
  rw[if_neg hc];exact h
theorem PKok.refused {S:SV}{c:CV}{p:PK}(h:PKok S c p)(id:Int):PKok S (c.refused id) p:=by
 unfold CV.refused
 split
 ·refine⟨h.kd,h.rv,fun e=>?_,h.told,h.tolr⟩;obtain⟨a1,a2,a3,a4,a5,a6⟩:=h.ask e
  exact⟨a1,a2,a3,a4,a5,(fun _ hh=>by cases hh)⟩
 ·exact h
end
section
open Go.RowKit
theorem Que (l:List PT):e1 l=0∨e1 l=1∨e1 l=3:=by
 induction l with
 | nil=>exact .inl rfl
 | cons p l ih =>
  unfold e1
  split
  ·exact .inr (.inl rfl)
  split
  ·exact .inr (.inr rfl)
  ·exact ih
theorem Quf (l:List PT)(n:Int):e2 n l=0∨e2 n l=2:=by
 induction l generalizing n with
 | nil=>unfold e2;split<;>simp
 | cons p l ih =>
  unfold e2
  split
  ·exact .inr rfl
  ·exact ih _
theorem Qix (l:List PT)(n:Int):chk l n≠8:=by
 unfold chk
 split
 ·rcases Quf l n with h | h<;>rw[h]<;>decide
 ·rcases Que l with h | h | h<;>rw[h]<;>decide
theorem Qug (l:List PT)(s:U.Bs):apc l s≠8:=by
 unfold apc
 split
 ·split<;>decide
 ·exact Qix _ _
theorem SV.does_ne8 (S:SV)(who id rev:Int)(op:List PT):(S.does who id rev op).1≠8:=by
 unfold SV.does
 split
 ·exact (by decide:(2:Int)≠8)
 split
 ·exact (by decide:(4:Int)≠8)
 split
 ·exact Qix _ _
 split
 ·exact Qug _ _
 split
 ·exact (by decide:(12:Int)≠8)
 ·exact (by decide:(0:Int)≠8)
def SV.No8 (S:SV):Prop:=∀ k i x,S.last k=some (i,x)→x≠8
theorem SV.No8.take {S:SV}(h:S.No8)(who id rev:Int)(op:List PT):(S.take who id rev op).2.No8:=by
 have hf:(S.fresh who id rev op).2.No8:=by
  intro k i x hx;unfold SV.fresh at hx;dsimp only at hx
  split at hx
  ·cases hx;exact S.does_ne8 _ _ _ _
  ·exact h k i x hx
 unfold SV.take
 split
 ·split
  ·exact h
  ·split
   ·exact h
   ·exact hf
 ·exact hf
theorem SV.take_ne8 {S:SV}(h:S.No8){who id rev:Int}{op:List PT}(hl:∀ i x,S.last who=some (i,x)→i≤id):(S.take who id rev op).1≠8:=by
 unfold SV.take
 split
 ·rename_i i k hk
  have:=hl i k hk
  rw[if_neg (by omega)]
  split
  ·exact h who i k hk
  ·exact S.does_ne8 _ _ _ _
 ·exact S.does_ne8 _ _ _ _
theorem SV.take_last {S:SV}{who id rev:Int}{op:List PT}(hl:∀ i x,S.last who=some (i,x)→i≤id):(S.take who id rev op).2.last who=some (id,(S.take who id rev op).1):=by
 have hf:(S.fresh who id rev op).2.last who=some (id,(S.fresh who id rev op).1):=by unfold SV.fresh;simp
 unfold SV.take
 split
 ·rename_i i k hk
  have:=hl i k hk
  rw[if_neg (by omega)]
  split
  ·rename_i he
   rw[he];exact hk
  ·exact hf
 ·exact hf
theorem SV.take_tk' (S:SV)(who id rev:Int)(op:List PT):(S.take who id rev op).2.tk≤S.tk+1:=by
 have hd:(S.does who id rev op).2.tk=S.tk:=by
  unfold SV.does
  repeat' split
  all_goals rfl
 unfold SV.take SV.fresh
 repeat' split
 all_goals (try rw[hd])
 all_goals (try simp)
 all_goals (try omega)
section
variable {N:Int}{r:RM}
theorem getElem?_uniq {α:Type}{l:List α}{k:Nat}{a b:α}(h1:l[k]?=some a)(h2:l[k]?=some b):a=b:=Wbg (h1.symm.trans h2)
theorem RMok.out (h:RMok N r)(i:Nat):RMok N (r.out i) :=
 ⟨h.sv,h.ln,h.cl,fun p hp=>h.way p (List.mem_of_mem_eraseIdx hp),Wbf (List.length_eraseIdx_le _ _) h.wl⟩
theorem RMok.served (h:RMok N r){p:PK}{c:CV}(hc:r.cl[p.k]?=some c)(hp:PKok r.srv c p)(hk:p.kind=1):RMok N { r with srv:=(r.srv.take p.k p.id p.rev p.en.op).2 }:=by
 have ht:=r.srv.take_spec p.k p.id p.rev p.en.op;obtain⟨a1,a2,a3,a4,a5,a6⟩:=hp.ask hk;refine⟨h.sv.take _ _ _ _,?_,fun k' c' hc'=>?_,fun q hq=>?_,h.wl⟩
 ·have hl:=h.ln;rcases ht with ⟨b1,-⟩ | ⟨-,-,-,b1,-,b2,-⟩
  ·show (r.srv.take p.k p.id p.rev p.en.op).2.log.length≤300
   rw[b1];exact hl
  ·show (r.srv.take p.k p.id p.rev p.en.op).2.log.length≤300
   rw[b2,Wad];simp;omega
 ·refine (h.cl k' c' hc').served h.sv.len (fun e=>?_) ht;have e2:k'=p.k:=by omega
  subst e2;obtain rfl:=getElem?_uniq hc hc'
  exact⟨a2,a6⟩
 ·obtain⟨cq,hcq,hq'⟩:=h.way q hq
  exact⟨cq,hcq,hq'.served (h.cl _ _ hcq).rev ht⟩
theorem RMok.setc (h:RMok N r){N':Int}(hN:N≤N'){k:Nat}{c c':CV}(hk:r.cl[k]?=some c)(hc:CKok N' r.srv k c')(hp:∀ p,PKok r.srv c p→PKok r.srv c' p):RMok N' (r.setc k c'):=by
 have hl:=(Wai.1 hk).1;refine⟨h.sv,h.ln,fun k' c2 hk'=>?_,fun q hq=>?_,h.wl⟩
 ·have hk':(r.cl.set k c')[k']?=some c2:=hk'
  by_cases e:k=k'
  ·subst e;rw[List.getElem?_set_self hl] at hk'
   cases hk'
   exact hc
  ·rw[List.getElem?_set_ne e] at hk';exact (h.cl k' c2 hk').mono hN
 ·obtain⟨cq,hcq,hq'⟩:=h.way q hq
  show ∃ c2,(r.cl.set k c')[q.k]?=some c2∧PKok r.srv c2 q
  by_cases e:k=q.k
  ·subst e;obtain rfl:=getElem?_uniq hk hcq
   exact⟨c',List.getElem?_set_self hl,hp q hq'⟩
  ·exact⟨cq,by rw[List.getElem?_set_ne e];exact hcq,hq'⟩
theorem RM.tells_srv (r:RM)(k:Nat)(rev:Int):(r.tells k rev).srv=r.srv∧(r.tells k rev).cl=r.cl:=by
 unfold RM.tells
 split
 ·exact r.sends_srv _
 ·exact⟨rfl,rfl⟩
theorem RMok.comes (h:RMok N r){p:PK}{c:CV}(hc:r.cl[p.k]?=some c)(hp:PKok r.srv c p):RMok N (r.comes p):=by
 unfold RM.comes
 split
 ·rename_i hk
  have h1:=h.served hc hp hk;have h2:=h1.tells (k:=p.k) (c:=c) hc p.rev;obtain⟨e1,e2⟩:=RM.tells_srv { r with srv:=(r.srv.take p.k p.id p.rev p.en.op).2 } p.k p.rev;dsimp only
  split
  ·refine h2.send ⟨c,by rw[e2];exact hc,?_⟩;rw[e1]
   exact⟨.inr (.inr (.inr rfl)),⟨by dsimp only;omega,Wba _⟩,fun e=>absurd e (by decide:(4:Int)≠1),fun e=>absurd e (by decide:(4:Int)≠3),fun e=>absurd e (by decide:(4:Int)≠3)⟩
  ·exact h2
 split
 ·exact h.tells hc p.rev
 split
 ·rename_i hk
  rw[hc];dsimp only
  have he:p.rev=c.rev→r.srv.log[c.rev]?=some p.en:=fun e=>by
   have:=hp.told hk
   rwa [e,show ((c.rev:Nat):Int).toNat=c.rev from by omega] at this
  exact h.setc (Wba _) hc ((h.cl _ _ hc).take h.sv he) (fun q hq=>hq.take (h.cl _ _ hc) he)
 split
 ·rw[hc];exact h.setc (Wba _) hc ((h.cl _ _ hc).refused p.id) (fun q hq=>hq.refused p.id)
 ·exact h
theorem RMok.deliver (h:RMok N r)(i:Nat):RMok N (r.deliver i):=by
 unfold RM.deliver
 split
 ·rename_i p hp
  obtain⟨c,hc,hpk⟩:=h.way p (List.mem_of_getElem? hp);exact (h.out i).comes hc hpk
 ·exact h
theorem RMok.again (h:RMok N r)(i:Nat):RMok N (r.again i):=by
 unfold RM.again
 split
 ·rename_i p hp
  exact h.send (h.way p (List.mem_of_getElem? hp))
 ·exact h
theorem RMok.asks (h:RMok N r)(k:Nat):RMok N (r.asks k):=by
 unfold RM.asks
 split
 ·rename_i c hc
  have hck:=h.cl k c hc;refine h.send ⟨c,by unfold CV.asks;split<;>exact hc,?_⟩;have hrv:0≤(c.rev:Int)∧(c.rev:Int)≤(r.srv.log.length:Int):=⟨by omega,by have:=hck.rev;omega⟩;unfold CV.asks
  split
  ·rename_i hh
   obtain⟨X,hX,hpl,-⟩:=hck.ok.yes hh;have hb:=hX.sizes.1;have hsz:=hck.ok.sz;refine⟨.inl rfl,hrv,fun _=>⟨hck.ok.id1.1,Wba _,hX.arg,by dsimp only;omega,hpl,fun _ _=>⟨by dsimp only;omega,?_⟩⟩,fun e=>absurd e (by decide:(1:Int)≠3),fun e=>absurd e (by decide:(1:Int)≠3)⟩;dsimp only;rw[show ((c.rev:Nat):Int).toNat=c.rev from by omega,Qb4,Qa9]
  ·exact⟨.inr (.inl rfl),hrv,fun e=>absurd e (by decide:(2:Int)≠1),fun e=>absurd e (by decide:(2:Int)≠3),fun e=>absurd e (by decide:(2:Int)≠3)⟩
 ·exact h
theorem RMok.mono (h:RMok N r){N':Int}(hN:N≤N'):RMok N' r:=⟨h.sv,h.ln,fun k c hc=>(h.cl k c hc).mono hN,h.way,h.wl⟩
theorem RMok.edit (h:RMok N r)(k:Nat)(l:List PT):RMok (N+1) (r.edit k l):=by
 unfold RM.edit
 split
 ·rename_i c hc
  exact h.setc (by omega) hc ((h.cl k c hc).edit l) (fun q hq=>hq.edit l)
 ·exact h.mono (by omega)
end
theorem RM.comes_srv (r:RM)(p:PK):(r.comes p).srv=r.srv∨(p.kind=1∧(r.comes p).srv=(r.srv.take p.k p.id p.rev p.en.op).2):=by
 unfold RM.comes
 split
 ·rename_i hk
  obtain⟨e1,-⟩:=RM.tells_srv { r with srv:=(r.srv.take p.k p.id p.rev p.en.op).2 } p.k p.rev;refine .inr ⟨hk,?_⟩;dsimp only
  split
  ·rw[(RM.send_srv _ _).1,e1]
  ·exact e1
 split
 ·exact .inl (r.tells_srv _ _).1
 split
 ·split<;>exact .inl rfl
 split
 ·split<;>exact .inl rfl
 ·exact .inl rfl
theorem RM.comes_cl (r:RM)(p:PK):(r.comes p).cl.length=r.cl.length:=by
 unfold RM.comes
 split
 ·obtain⟨-,e1⟩:=RM.tells_srv { r with srv:=(r.srv.take p.k p.id p.rev p.en.op).2 } p.k p.rev;dsimp only
  split
  ·rw[(RM.send_srv _ _).2,e1]
  ·rw[e1]
 split
 ·rw[(r.tells_srv _ _).2]
 split
 ·split
  ·exact List.length_set
  ·rfl
 split
 ·split
  ·exact List.length_set
  ·rfl
 ·rfl
theorem RM.deliver_cl (r:RM)(i:Nat):(r.deliver i).cl.length=r.cl.length:=by
 unfold RM.deliver
 split
 ·rw[RM.comes_cl];rfl
 ·rfl
theorem RM.deliver_tk (r:RM)(i:Nat):(r.deliver i).srv.tk≤r.srv.tk+1:=by
 unfold RM.deliver
 split
 ·rename_i p _
  rcases RM.comes_srv (r.out i) p with e | ⟨-,e⟩
  ·rw[e];exact Nat.le_succ _
  ·rw[e];exact SV.take_tk' _ _ _ _ _
 ·exact Nat.le_succ _
theorem RM.deliver_no8 {r:RM}(h:r.srv.No8)(i:Nat):(r.deliver i).srv.No8:=by
 unfold RM.deliver
 split
 ·rename_i p _
  rcases RM.comes_srv (r.out i) p with e | ⟨-,e⟩
  ·rw[e];exact h
  ·rw[e];exact SV.No8.take h _ _ _ _
 ·exact h
theorem RM.asks_srv (r:RM)(k:Nat):(r.asks k).srv=r.srv∧(r.asks k).cl=r.cl:=by
 unfold RM.asks
 split
 ·exact r.send_srv _
 ·exact⟨rfl,rfl⟩
def PK.wt (p:PK):Nat:=if p.kind=1∨p.kind=2 then 1000 else 1
def wts (l:List PK):Nat:=(l.map PK.wt).sum
theorem Qiy (a b:List PK):wts (a++b)=wts a+wts b:=by unfold wts;simp
theorem Yy (p:PK)(l:List PK):wts (p :: l)=p.wt+wts l:=by unfold wts;simp
theorem PK.wt_le (p:PK):1≤p.wt∧p.wt≤1000:=by unfold PK.wt;split<;>omega
theorem Quh (l:List PK):wts l≤1000*l.length:=by
 induction l with
 | nil=>simp[wts]
 | cons p l ih=>rw[Yy,Wan];have:=p.wt_le;omega
theorem RM.send_wt (r:RM)(p:PK):wts (r.send p).way≤wts r.way+p.wt:=by
 unfold RM.send
 split
 ·exact Nat.le_add_right _ _
 ·rw[Qiy,Yy];simp[wts]
theorem RM.sends_wt (r:RM)(l:List PK):wts (r.sends l).way≤wts r.way+wts l:=by
 induction l generalizing r with
 | nil=>simp[RM.sends]
 | cons p l ih =>
  have h1:=ih (r.send p);have h2:=r.send_wt p;rw[Yy];have e:r.sends (p :: l)=(r.send p).sends l:=rfl;rw[e];omega
theorem XE (k n:Nat)(l:List EN):wts (QF k n l)=l.length∧(QF k n l).length=l.length:=by
 induction l generalizing n with
 | nil=>simp[QF,wts]
 | cons e l ih =>
  rw[QF,Yy,(ih _).1,Wan,Wan,(ih _).2];refine⟨?_,rfl⟩
  have:(⟨3,k,n,0,e⟩:PK).wt=1:=rfl
  omega
theorem RM.tells_wt (r:RM)(k:Nat)(rev:Int):wts (r.tells k rev).way≤wts r.way+r.srv.log.length:=by
 unfold RM.tells
 split
 ·have:=r.sends_wt (QF k rev.toNat (r.srv.log.drop rev.toNat))
  rw[(XE _ _ _).1,War] at this;omega
 ·omega
theorem RMok.lighter {N:Int}{r:RM}(h:RMok N r){p:PK}{l:List PK}(hw:r.way=p :: l):wts (r.deliver 0).way<wts r.way:=by
 have e0:r.way[0]?=some p:=by rw[hw];rfl
 obtain⟨c,hc,hp⟩:=h.way p (by rw[hw];simp);have e1:(r.out 0).way=l:=by unfold RM.out;rw[hw];rfl
 have ed:r.deliver 0=(r.out 0).comes p:=by unfold RM.deliver;rw[e0]
 have hln:=h.ln;rw[ed,hw,Yy];have hpw:=p.wt_le;unfold RM.comes
 split
 ·rename_i hk
  have h1:=((h.out 0).served (p:=p) (c:=c) hc hp hk).ln;have h2:=RM.tells_wt { r.out 0 with srv:=((r.out 0).srv.take p.k p.id p.rev p.en.op).2 } p.k p.rev;have e2:p.wt=1000:=by unfold PK.wt;rw[if_pos (.inl hk)]
  dsimp only at h1 h2 ⊢;have e4:wts (r.out 0).way=wts l:=by rw[e1]
  split
  ·have h3:=RM.send_wt (RM.tells { r.out 0 with srv:=((r.out 0).srv.take p.k p.id p.rev p.en.op).2 } p.k p.rev) ⟨4,p.k,(((r.out 0).srv.take p.k p.id p.rev p.en.op).2.log.length:Int),p.id,Zg⟩;dsimp only at h3;have e3:(⟨4,p.k,(((r.out 0).srv.take p.k p.id p.rev p.en.op).2.log.length:Int),p.id,Zg⟩:PK).wt=1:=rfl;omega
  ·omega
 split
 ·rename_i hk
  have h2:=RM.tells_wt (r.out 0) p.k p.rev;have e2:p.wt=1000:=by unfold PK.wt;rw[if_pos (.inr hk)]
  have e3:(r.out 0).srv=r.srv:=rfl;rw[e1,e3] at h2;omega
 split
 ·split
  ·show wts (r.out 0).way<_
   rw[e1];omega
  ·rw[e1];omega
 split
 ·split
  ·show wts (r.out 0).way<_
   rw[e1];omega
  ·rw[e1];omega
 ·rw[e1];omega
noncomputable def RM.flow:Nat→RM→RM
 | 0,r=>r
 | n+1,r=>if r.way=[] then r else RM.flow n (r.deliver 0)
noncomputable def RM.flows (r:RM):RM:=RM.flow (wts r.way) r
theorem Qiz {l:List PK}(h:wts l=0):l=[]:=by
 cases l with
 | nil=>rfl
 | cons p l=>rw[Yy] at h;have:=p.wt_le;omega
theorem Qi0 {N:Int}{r:RM}(h:RMok N r){n m:Nat}(hn:wts r.way≤n)(hm:wts r.way≤m):RM.flow n r=RM.flow m r:=by
 induction n generalizing r m with
 | zero =>
  have hw:=Qiz (Nat.le_zero.1 hn)
  cases m with
  | zero=>rfl
  | succ m=>unfold RM.flow;rw[if_pos hw]
 | succ n ih =>
  cases m with
  | zero =>
   have hw:=Qiz (Nat.le_zero.1 hm);unfold RM.flow;rw[if_pos hw]
  | succ m =>
   by_cases hw:r.way=[]
   ·unfold RM.flow;rw[if_pos hw,if_pos hw]
   ·rw[RM.flow,RM.flow,if_neg hw,if_neg hw]
    cases hl:r.way with
    | nil=>exact absurd hl hw
    | cons p l =>
     have:=h.lighter hl
     exact ih (h.deliver 0) (by omega) (by omega)
theorem RM.flows_nil {r:RM}(h:r.way=[]):r.flows=r:=by
 unfold RM.flows;rw[h]
 rfl
theorem RMok.flows_cons {N:Int}{r:RM}(h:RMok N r)(hw:r.way≠[]):r.flows=(r.deliver 0).flows:=by
 have e:r.flows=RM.flow (wts r.way+1) r:=Qi0 h (Wak _) (Nat.le_succ _);rw[e,RM.flow,if_neg hw]
 cases hl:r.way with
 | nil=>exact absurd hl hw
 | cons p l =>
  have:=h.lighter hl
  rw[hl] at this;exact Qi0 (h.deliver 0) (by omega) (Wak _)
theorem RMok.flows_ind {N:Int}{I:RM→Prop}(hI:∀ r,RMok N r→I r→r.way≠[]→I (r.deliver 0)){r:RM}(h:RMok N r)(h0:I r):I r.flows∧RMok N r.flows∧r.flows.way=[]:=by
 obtain⟨n,hn⟩:∃ n,n=wts r.way:=⟨_,rfl⟩
 induction n using Nat.strongRecOn generalizing r with
 | _ n ih =>
  cases hl:r.way with
  | nil=>rw[RM.flows_nil hl];exact⟨h0,h,hl⟩
  | cons p l =>
   have hne:r.way≠[]:=by rw[hl];simp
   rw[h.flows_cons hne];exact ih _ (by rw[hn];exact h.lighter hl) (h.deliver 0) (hI r h h0 hne) rfl
theorem RMok.flows_tk {N:Int}{r:RM}(h:RMok N r):r.flows.srv.tk≤r.srv.tk+wts r.way:=by
 obtain⟨n,hn⟩:∃ n,n=wts r.way:=⟨_,rfl⟩
 induction n using Nat.strongRecOn generalizing r with
 | _ n ih =>
  cases hl:r.way with
  | nil=>rw[RM.flows_nil hl];omega
  | cons p l =>
   have hne:r.way≠[]:=by rw[hl];simp
   have h1:=h.lighter hl;have h2:=r.deliver_tk 0;have h3:=ih _ (by rw[hn];exact h1) (h.deliver 0) rfl;rw[h.flows_cons hne,← hl];omega
noncomputable def RM.turn (r:RM)(k:Nat):RM:=(r.asks k).flows
noncomputable def RM.turns (r:RM)(n:Nat):RM:=(List.range n).foldl RM.turn r
noncomputable def RM.quiet (r:RM):RM:=r.flows.turns r.cl.length
theorem RM.turns_succ (r:RM)(n:Nat):r.turns (n+1)=(r.turns n).turn n:=by unfold RM.turns;rw[List.range_succ,List.foldl_append];rfl
theorem RMok.flows {N:Int}{r:RM}(h:RMok N r):RMok N r.flows∧r.flows.way=[]:=(h.flows_ind (I:=fun _=>True) (fun _ _ _ _=>trivial) trivial).2
theorem RMok.flows_cl {N:Int}{r:RM}(h:RMok N r):r.flows.cl.length=r.cl.length:=(h.flows_ind (I:=fun x=>x.cl.length=r.cl.length) (fun x _ hx _=>(x.deliver_cl 0).trans hx) rfl).1
theorem RMok.turn {N:Int}{r:RM}(h:RMok N r)(k:Nat):RMok N (r.turn k)∧(r.turn k).way=[]∧(r.turn k).cl.length=r.cl.length∧(r.turn k).srv.tk≤r.srv.tk+wts r.way+1000:=by
 have h1:=(h.asks k).flows;have h2:=(h.asks k).flows_cl;have h3:=(h.asks k).flows_tk;obtain⟨e1,e2⟩:=r.asks_srv k;refine⟨h1.1,h1.2,?_,?_⟩
 ·unfold RM.turn;rw[h2,e2]
 ·unfold RM.turn;rw[e1] at h3
  have h4:wts (r.asks k).way≤wts r.way+1000:=by
   unfold RM.asks
   split
   ·rename_i c _
    have:=r.send_wt (c.asks k)
    have:=(c.asks k).wt_le
    omega
   ·omega
  omega
theorem RMok.turns {N:Int}{r:RM}(h:RMok N r)(hw:r.way=[])(n:Nat):RMok N (r.turns n)∧(r.turns n).way=[]∧(r.turns n).cl.length=r.cl.length∧(r.turns n).srv.tk≤r.srv.tk+n*1000:=by
 induction n with
 | zero=>exact⟨h,hw,rfl,by simp[RM.turns]⟩
 | succ n ih =>
  obtain⟨h1,h2,h3,h4⟩:=ih;rw[RM.turns_succ];obtain⟨k1,k2,k3,k4⟩:=h1.turn n;rw[h2] at k4;simp only[wts,List.map_nil,List.sum_nil] at k4
  exact⟨k1,k2,k3.trans h3,by omega⟩
theorem RMok.quiet {N:Int}{r:RM}(h:RMok N r):RMok N r.quiet∧r.quiet.way=[]∧r.quiet.cl.length=r.cl.length∧r.quiet.srv.tk≤r.srv.tk+400000+r.cl.length*1000:=by
 obtain⟨h1,h2⟩:=h.flows;have h3:=h.flows_tk;have h4:=Quh r.way;have h5:=h.wl;obtain⟨k1,k2,k3,k4⟩:=h1.turns h2 r.cl.length
 exact⟨k1,k2,k3.trans h.flows_cl,by unfold RM.quiet;omega⟩
theorem RMok.quiet_no8 {N:Int}{r:RM}(h:RMok N r)(h8:r.srv.No8):r.flows.srv.No8:=(h.flows_ind (I:=fun x=>x.srv.No8) (fun _ _ hx _=>RM.deliver_no8 hx 0) h8).1
end
section
open Go.RowKit
noncomputable def takes (c:CV):Nat→List EN→CV
 | _,[]=>c
 | n,e :: l=>takes (c.take n e) (n+1) l
def CV.pend (c:CV):Nat:=(if c.has then 1 else 0)+(if c.more then 1 else 0)
theorem CV.take_rev (c:CV)(e:EN):(c.take c.rev e).rev=c.rev+1:=by
 unfold CV.take;rw[if_neg (fun h=>h rfl)]
 split<;>rfl
theorem CV.take_own {c:CV}{e:EN}(h:c.isOwn e):(c.take c.rev e).pend+1=c.pend:=by
 unfold CV.take;rw[if_neg (fun h=>h rfl),if_pos h];have hh:=h.2.1;unfold CV.pend CV.own;dsimp only;rw[hh];simp
 omega
theorem CV.take_other {c:CV}{e:EN}(h:¬ c.isOwn e):(c.take c.rev e).who=c.who∧(c.take c.rev e).id=c.id∧(c.take c.rev e).has=c.has∧(c.take c.rev e).more=c.more:=by
 unfold CV.take;rw[if_neg (fun h=>h rfl),if_neg h]
 exact⟨rfl,rfl,rfl,rfl⟩
theorem CV.pend_eq {c c':CV}(h1:c'.has=c.has)(h2:c'.more=c.more):c'.pend=c.pend:=by unfold CV.pend;rw[h1,h2]
theorem CV.take_pend (c:CV)(rev:Int)(e:EN):(c.take rev e).pend≤c.pend:=by
 by_cases hr:rev=c.rev
 ·subst hr
  by_cases ho:c.isOwn e
  ·have:=CV.take_own ho;omega
  ·obtain⟨-,-,h1,h2⟩:=CV.take_other ho;exact Nat.le_of_eq (CV.pend_eq h1 h2)
 ·unfold CV.take;rw[if_pos hr];exact Wak _
theorem CV.refused_pend (c:CV)(id:Int):(c.refused id).pend≤c.pend:=by
 unfold CV.refused
 split
 ·unfold CV.pend;simp
 ·exact Wak _
theorem Qjq (l:List EN)(c:CV)(n:Nat)(hn:c.rev=n):(takes c n l).rev=n+l.length ∧
  ((takes c n l).pend+1≤c.pend∨((takes c n l).id=c.id∧(takes c n l).has=c.has∧(takes c n l).more=c.more∧∀ e∈l,¬ c.isOwn e)):=by
 induction l generalizing c n with
 | nil=>exact⟨hn,.inr ⟨rfl,rfl,rfl,fun e he=>by cases he⟩⟩
 | cons e l ih =>
  subst hn;obtain⟨h1,h2⟩:=ih (c.take c.rev e) (c.rev+1) (c.take_rev e);rw[takes,Wan];refine⟨by rw[h1];omega,?_⟩
  by_cases ho:c.isOwn e
  ·have h3:=CV.take_own ho;refine .inl ?_;rcases h2 with h2 | ⟨-,h4,h5,-⟩
   ·omega
   ·have:=CV.pend_eq h4 h5;omega
  ·obtain⟨a1,a2,a3,a4⟩:=CV.take_other ho;have h6:=CV.pend_eq a3 a4;rcases h2 with h2 | ⟨b1,b2,b3,b4⟩
   ·exact .inl (by omega)
   ·refine .inr ⟨b1.trans a2,b2.trans a3,b3.trans a4,fun x hx=>?_⟩;rcases Wbk.1 hx with rfl | hx
    ·exact ho
    ·intro hy;refine b4 x hx ⟨?_,?_,?_⟩
     ·rw[a1];exact hy.1
     ·rw[a3];exact hy.2.1
     ·rw[a2];exact hy.2.2
theorem RM.sends_room {r:RM}{l:List PK}(h:r.way.length+l.length≤400):r.sends l={ r with way:=r.way++l }:=by
 induction l generalizing r with
 | nil=>simp[RM.sends]
 | cons p l ih =>
  rw[Wan] at h;have e:r.sends (p :: l)=(r.send p).sends l:=rfl;have e2:r.send p={ r with way:=r.way++[p] }:=by unfold RM.send;rw[if_neg (by omega)]
  rw[e,e2,ih (by simp;omega)];simp
theorem RM.tells_room {r:RM}{k n:Nat}(hn:n≤r.srv.log.length)(hl:r.srv.log.length≤300)(hw:r.way=[]):r.tells k n={ r with way:=QF k n (r.srv.log.drop n) }:=by
 unfold RM.tells;rw[if_pos ⟨by omega,by omega⟩,show ((n:Nat):Int).toNat=n from by omega];rw[RM.sends_room (by rw[hw,(XE _ _ _).2,War];simp;omega),hw,Wbn]
theorem RMok.flows_tolds {N:Int}{r:RM}(h:RMok N r){k n:Nat}{l:List EN}{q:List PK}{c:CV}(hw:r.way=QF k n l++q)(hc:r.cl[k]?=some c) :
  r.flows=RM.flows ⟨r.srv,r.cl.set k (takes c n l),q,r.lost⟩∧RMok N ⟨r.srv,r.cl.set k (takes c n l),q,r.lost⟩:=by
 induction l generalizing r n c with
 | nil =>
  have e:r.cl.set k (takes c n [])=r.cl:=by
   obtain⟨h1,rfl⟩:=Wai.1 hc;exact List.set_getElem_self h1
  have e2:(⟨r.srv,r.cl,q,r.lost⟩:RM)=r:=by
   have:r.way=q:=hw
   rw[← this]
  rw[e,e2]
  exact⟨rfl,h⟩
 | cons e l ih =>
  have hne:r.way≠[]:=by rw[hw,QF];simp
  have hd:r.deliver 0=⟨r.srv,r.cl.set k (c.take n e),QF k (n+1) l++q,r.lost⟩:=by
   have e0:r.way[0]?=some ⟨3,k,n,0,e⟩:=by rw[hw];rfl
   unfold RM.deliver;rw[e0];dsimp only;unfold RM.comes;rw[if_neg (by decide:¬ (3:Int)=1),if_neg (by decide:¬ (3:Int)=2),if_pos (rfl:(3:Int)=3)];have e1:(r.out 0).cl[k]?=some c:=hc;rw[e1];dsimp only;unfold RM.setc RM.out;rw[hw,QF]
   rfl
  have h1:=h.deliver 0;rw[hd] at h1;have hl:=(Wai.1 hc).1;obtain⟨i1,i2⟩:=ih h1 rfl (List.getElem?_set_self hl);dsimp only at i1 i2;rw[List.set_set] at i1 i2;rw[h.flows_cons hne,hd,takes]
  exact⟨i1,i2⟩
theorem List.set_at_self {α:Type}{l:List α}{k:Nat}{c:α}(hc:l[k]?=some c):l.set k c=l:=by
 obtain⟨h1,rfl⟩:=Wai.1 hc;exact List.set_getElem_self h1
theorem CV.asks_no {c:CV}(h:c.has=false)(k:Nat):c.asks k=⟨2,k,c.rev,0,Zg⟩:=by unfold CV.asks;rw[h];rfl
theorem CV.asks_yes {c:CV}(h:c.has=true)(k:Nat):c.asks k=⟨1,k,c.rev,c.id,⟨k,c.id,c.way⟩⟩:=by unfold CV.asks;rw[h];rfl
theorem RMok.turn_spec {N:Int}{r:RM}(h:RMok N r)(h8:r.srv.No8)(hw:r.way=[]){k:Nat}{c:CV}(hc:r.cl[k]?=some c) :
  ∃ S' c',r.turn k=⟨S',r.cl.set k c',[],r.lost⟩∧S'.No8∧c'.rev=S'.log.length∧c'.pend≤c.pend-1∧(c.pend=0→S'=r.srv) ∧
   S'=(if c.has then (r.srv.take k c.id c.rev c.way).2 else r.srv):=by
 have hck:=h.cl k c hc;have hl:=(Wai.1 hc).1;have hrv:=hck.rev
 have ha:r.asks k=⟨r.srv,r.cl,[c.asks k],r.lost⟩:=by
  unfold RM.asks;rw[hc];dsimp only;unfold RM.send;rw[hw,if_neg (by simp)]
  rfl
 have hra:=h.asks k;rw[ha] at hra;have hne:(⟨r.srv,r.cl,[c.asks k],r.lost⟩:RM).way≠[]:=by simp
 unfold RM.turn;rw[ha,hra.flows_cons hne]
 cases hh:c.has
 ·have hp:c.pend=0:=by unfold CV.pend;rw[hh,(hck.ok.no hh).1];rfl
  have hd:RM.deliver ⟨r.srv,r.cl,[c.asks k],r.lost⟩ 0=⟨r.srv,r.cl,QF k c.rev (r.srv.log.drop c.rev)++[],r.lost⟩:=by
   rw[CV.asks_no hh];have e:RM.deliver ⟨r.srv,r.cl,[⟨2,k,c.rev,0,Zg⟩],r.lost⟩ 0=RM.tells ⟨r.srv,r.cl,[],r.lost⟩ k c.rev:=rfl;rw[e,RM.tells_room (r:=⟨r.srv,r.cl,[],r.lost⟩) hrv h.ln rfl,Wam]
  have h1:=hra.deliver 0;rw[hd] at h1;obtain⟨f1,-⟩:=h1.flows_tolds (c:=c) rfl hc;rw[hd,f1,RM.flows_nil rfl];obtain⟨t1,t2⟩:=Qjq (r.srv.log.drop c.rev) c c.rev rfl;refine⟨r.srv,_,rfl,h8,?_,?_,fun _=>rfl,by simp⟩
  ·rw[t1,War];omega
  ·rcases t2 with t2 | ⟨-,t3,t4,-⟩
   ·omega
   ·have:=CV.pend_eq t3 t4;omega
 ·have hpl:1≤c.pend:=by unfold CV.pend;rw[hh];simp
  obtain⟨t,ht⟩:∃ t,t=r.srv.take k c.id c.rev c.way:=⟨_,rfl⟩;have hsp:=r.srv.take_spec k c.id c.rev c.way;have hl3:=SV.take_last (S:=r.srv) (who:=(k:Int)) (id:=c.id) (rev:=(c.rev:Int)) (op:=c.way) hck.lst;have hn8:=SV.take_ne8 (rev:=(c.rev:Int)) (op:=c.way) h8 hck.lst;have h8':=h8.take k c.id c.rev c.way;rw[← ht] at hsp hl3 hn8 h8';have hserved:CKok N t.2 k c:=hck.served h.sv.len (fun _=>⟨Wba _,fun _ _=>⟨by omega,by rw[show ((c.rev:Nat):Int).toNat=c.rev from by omega,Qb4,Qa9]⟩⟩) hsp
  have hln:t.2.log.length≤300:=by
   have:=h.ln
   rcases hsp with ⟨b1,-⟩ | ⟨-,-,-,b1,-,b2,-⟩
   ·rw[b1];exact this
   ·rw[b2,Wad];simp;omega
  have hrv':=hserved.rev;have hroom:=RM.tells_room (r:=⟨t.2,r.cl,[],r.lost⟩) (k:=k) hrv' hln rfl
  have hd:RM.deliver ⟨r.srv,r.cl,[c.asks k],r.lost⟩ 0=if t.1≠0∧t.1≠8 then ⟨t.2,r.cl,QF k c.rev (t.2.log.drop c.rev)++[⟨4,k,(t.2.log.length:Int),c.id,Zg⟩],r.lost⟩ else ⟨t.2,r.cl,QF k c.rev (t.2.log.drop c.rev)++[],r.lost⟩:=by
   rw[CV.asks_yes hh];have e:RM.deliver ⟨r.srv,r.cl,[⟨1,k,c.rev,c.id,⟨k,c.id,c.way⟩⟩],r.lost⟩ 0=if (r.srv.take k c.id c.rev c.way).1≠0∧(r.srv.take k c.id c.rev c.way).1≠8 then (RM.tells ⟨(r.srv.take k c.id c.rev c.way).2,r.cl,[],r.lost⟩ k c.rev).send ⟨4,k,((r.srv.take k c.id c.rev c.way).2.log.length:Int),c.id,Zg⟩ else RM.tells ⟨(r.srv.take k c.id c.rev c.way).2,r.cl,[],r.lost⟩ k c.rev:=rfl
   rw[e,← ht,hroom]
   split
   ·unfold RM.send;dsimp only;rw[if_neg (by rw[(XE _ _ _).2,War];omega)]
   ·rw[Wam]
  have h1:=hra.deliver 0;rw[hd] at h1 ⊢;obtain⟨t1,t2⟩:=Qjq (t.2.log.drop c.rev) c c.rev rfl;have tr:(takes c c.rev (t.2.log.drop c.rev)).rev=t.2.log.length:=by rw[t1,War];omega
  by_cases ht0:t.1=0
  ·rw[if_neg (fun e=>e.1 ht0)] at h1 ⊢;obtain⟨f1,-⟩:=h1.flows_tolds (c:=c) rfl hc;rw[f1,RM.flows_nil rfl];refine⟨t.2,_,rfl,h8',tr,?_,fun e=>by omega,by rw[if_pos rfl,ht]⟩;rcases t2 with t2 | ⟨-,-,-,t5⟩
   ·omega
   ·exfalso
    obtain⟨m,e,a1,a2,a3,a4⟩:=hserved.acc _ _ hl3 rfl ht0 hh;refine t5 e (List.mem_iff_getElem?.2 ⟨m-c.rev,?_⟩) ⟨by rw[a3,hck.who],hh,a4⟩;rw[List.getElem?_drop,show c.rev+(m-c.rev)=m from by omega];exact a2
  ·rw[if_pos ⟨ht0,hn8⟩] at h1 ⊢;obtain⟨f1,f2⟩:=h1.flows_tolds (c:=c) rfl hc;rw[f1];have hne2:(⟨t.2,r.cl.set k (takes c c.rev (t.2.log.drop c.rev)),[⟨4,k,(t.2.log.length:Int),c.id,Zg⟩],r.lost⟩:RM).way≠[]:=by simp
   dsimp only at f2 ⊢;rw[f2.flows_cons hne2]
   have hd2:RM.deliver ⟨t.2,r.cl.set k (takes c c.rev (t.2.log.drop c.rev)),[⟨4,k,(t.2.log.length:Int),c.id,Zg⟩],r.lost⟩ 0=⟨t.2,r.cl.set k ((takes c c.rev (t.2.log.drop c.rev)).refused c.id),[],r.lost⟩:=by
    have e:RM.deliver ⟨t.2,r.cl.set k (takes c c.rev (t.2.log.drop c.rev)),[⟨4,k,(t.2.log.length:Int),c.id,Zg⟩],r.lost⟩ 0=RM.comes ⟨t.2,r.cl.set k (takes c c.rev (t.2.log.drop c.rev)),[],r.lost⟩ ⟨4,k,(t.2.log.length:Int),c.id,Zg⟩:=rfl;rw[e];unfold RM.comes;rw[if_neg (by decide:¬ (4:Int)=1),if_neg (by decide:¬ (4:Int)=2),if_neg (by decide:¬ (4:Int)=3),if_pos (rfl:(4:Int)=4)];dsimp only;rw[List.getElem?_set_self hl];dsimp only;unfold RM.setc;dsimp only;rw[List.set_set]
   rw[hd2,RM.flows_nil rfl];refine⟨t.2,_,rfl,h8',?_,?_,fun e=>by omega,by rw[if_pos rfl,ht]⟩
   ·have:((takes c c.rev (t.2.log.drop c.rev)).refused c.id).rev=(takes c c.rev (t.2.log.drop c.rev)).rev:=by unfold CV.refused;split<;>rfl
    rw[this,tr]
   ·rcases t2 with t2 | ⟨u1,u2,u3,-⟩
    ·have:=(takes c c.rev (t.2.log.drop c.rev)).refused_pend c.id
     omega
    ·have:((takes c c.rev (t.2.log.drop c.rev)).refused c.id).pend=0:=by
      unfold CV.refused;rw[if_pos ⟨by rw[u2,hh],u1.symm⟩]
      rfl
     omega
def RM.pend (r:RM)(k:Nat):Nat:=match r.cl[k]? with | some c=>c.pend | none=>0
theorem RM.pend_setc {r:RM}{k:Nat}{c c':CV}(hc:r.cl[k]?=some c)(hp:c'.pend≤c.pend)(j:Nat):(r.setc k c').pend j≤r.pend j:=by
 have hl:=(Wai.1 hc).1;unfold RM.pend RM.setc;dsimp only
 by_cases e:k=j
 ·subst e;rw[List.getElem?_set_self hl,hc];exact hp
 ·rw[List.getElem?_set_ne e];exact Wak _
theorem RM.pend_cl {r r':RM}(h:r'.cl=r.cl)(j:Nat):r'.pend j=r.pend j:=by unfold RM.pend;rw[h]
theorem RM.comes_pend (r:RM)(p:PK)(j:Nat):(r.comes p).pend j≤r.pend j:=by
 unfold RM.comes
 split
 ·obtain⟨-,e1⟩:=RM.tells_srv { r with srv:=(r.srv.take p.k p.id p.rev p.en.op).2 } p.k p.rev;dsimp only
  split
  ·exact Nat.le_of_eq (RM.pend_cl ((RM.send_srv _ _).2.trans e1) j)
  ·exact Nat.le_of_eq (RM.pend_cl e1 j)
 split
 ·exact Nat.le_of_eq (RM.pend_cl (r.tells_srv _ _).2 j)
 split
 ·split
  ·rename_i c hc
   exact RM.pend_setc hc (c.take_pend _ _) j
  ·exact Wak _
 split
 ·split
  ·rename_i c hc
   exact RM.pend_setc hc (c.refused_pend _) j
  ·exact Wak _
 ·exact Wak _
theorem RM.deliver_pend (r:RM)(i j:Nat):(r.deliver i).pend j≤r.pend j:=by
 unfold RM.deliver
 split
 ·exact RM.comes_pend (r.out i) _ j
 ·exact Wak _
theorem RMok.turns_spec {N:Int}{r:RM}(h:RMok N r)(h8:r.srv.No8)(hw:r.way=[])(n:Nat)(hn:n≤r.cl.length) :
  (r.turns n).srv.No8∧(∀ j,j<n→(r.turns n).pend j≤r.pend j-1)∧(∀ j,n≤j→(r.turns n).pend j=r.pend j) ∧
   ((∀ j,r.pend j=0)→(r.turns n).srv=r.srv∧∀ j c,j<n→(r.turns n).cl[j]?=some c→c.rev=r.srv.log.length):=by
 induction n with
 | zero=>exact⟨h8,fun j hj=>by omega,fun j _=>rfl,fun _=>⟨rfl,fun j c hj=>by omega⟩⟩
 | succ n ih =>
  obtain⟨i1,i2,i3,i4⟩:=ih (by omega);obtain⟨k1,k2,k3,-⟩:=h.turns hw n;obtain⟨c,hc⟩:∃ c,(r.turns n).cl[n]?=some c:=⟨_,Waj (by omega)⟩;obtain⟨S',c',e1,e2,e3,e4,e5,-⟩:=k1.turn_spec i1 k2 hc;have hl:=(Wai.1 hc).1;have hpn:(r.turns n).pend n=c.pend:=by unfold RM.pend;rw[hc]
  have hpj:∀ j,j≠n→((r.turns n).turn n).pend j=(r.turns n).pend j:=fun j hj=>by
   rw[e1];unfold RM.pend;dsimp only;rw[List.getElem?_set_ne (fun e=>hj e.symm)]
  have hpn':((r.turns n).turn n).pend n=c'.pend:=by rw[e1];unfold RM.pend;dsimp only;rw[List.getElem?_set_self hl]
  rw[RM.turns_succ];refine⟨by rw[e1];exact e2,fun j hj=>?_,fun j hj=>?_,fun hz=>?_⟩
  ·by_cases ej:j=n
   ·subst ej;rw[hpn']
    have:=i3 j (Wak _)
    omega
   ·rw[hpj j ej];exact i2 j (by omega)
  ·rw[hpj j (by omega)];exact i3 j (by omega)
  ·obtain⟨z1,z2⟩:=i4 hz;have hcz:c.pend=0:=by rw[← hpn,i3 n (Wak _)];exact hz n
   have hS:=e5 hcz;refine⟨by rw[e1];exact hS.trans z1,fun j cj hj hcj=>?_⟩;rw[e1] at hcj;dsimp only at hcj
   by_cases ej:j=n
   ·subst ej;rw[List.getElem?_set_self hl] at hcj
    cases hcj
    rw[e3,hS,z1]
   ·rw[List.getElem?_set_ne (fun e=>ej e.symm)] at hcj;exact z2 j cj (by omega) hcj
theorem RMok.quiet_spec {N:Int}{r:RM}(h:RMok N r)(h8:r.srv.No8):r.quiet.srv.No8∧∀ j,r.quiet.pend j≤r.pend j-1:=by
 obtain⟨h1,h2⟩:=h.flows;have h3:=h.quiet_no8 h8;have hp:∀ j,r.flows.pend j≤r.pend j:=(h.flows_ind (I:=fun x=>∀ j,x.pend j≤r.pend j) (fun x _ hx _ j=>Wbf (x.deliver_pend 0 j) (hx j)) (fun j=>Wak _)).1;have hl:=h.flows_cl;obtain⟨k1,k2,k3,-⟩:=h1.turns_spec h3 h2 r.cl.length (by omega);refine⟨k1,fun j=>?_⟩
 have:=hp j
 unfold RM.quiet
 by_cases hj:j<r.cl.length
 ·have:=k2 j hj;omega
 ·rw[k3 j (by omega)]
  have:r.flows.pend j=0:=by unfold RM.pend;rw[List.getElem?_eq_none (by omega)]
  omega
end
section
open Go.RowKit
def RM.pot (r:RM):Int:=(r.srv.tk:Int)+r.lost+(wts r.way:Int)
theorem RM.send_pot (r:RM)(p:PK):(r.send p).pot≤r.pot+(p.wt:Int)∧r.lost≤(r.send p).lost:=by
 have hp:=p.wt_le;unfold RM.pot RM.send
 split
 ·exact⟨by dsimp only;omega,by dsimp only;omega⟩
 ·refine⟨?_,Wba _⟩;dsimp only;rw[Qiy,Yy];simp only[wts,List.map_nil,List.sum_nil];omega
theorem RM.sends_pot (r:RM)(l:List PK):(r.sends l).pot≤r.pot+(wts l:Int)∧r.lost≤(r.sends l).lost:=by
 induction l generalizing r with
 | nil=>exact⟨by simp[RM.sends,wts],Wba _⟩
 | cons p l ih =>
  have h1:=ih (r.send p);have h2:=r.send_pot p;have e:r.sends (p :: l)=(r.send p).sends l:=rfl;rw[e,Yy];omega
theorem RM.tells_pot (r:RM)(k:Nat)(rev:Int):(r.tells k rev).pot≤r.pot+(r.srv.log.length:Int)∧r.lost≤(r.tells k rev).lost:=by
 unfold RM.tells
 split
 ·have:=r.sends_pot (QF k rev.toNat (r.srv.log.drop rev.toNat))
  rw[(XE _ _ _).1,War] at this;omega
 ·omega
theorem Qtf {l:List PK}{i:Nat}{p:PK}(h:l[i]?=some p):wts (l.eraseIdx i)+p.wt=wts l:=by
 induction l generalizing i with
 | nil=>simp at h
 | cons q l ih =>
  cases i with
  | zero =>
   simp at h;subst h;rw[List.eraseIdx_cons_zero,Yy];omega
  | succ i =>
   have:=ih (i:=i) (by simpa using h)
   rw[List.eraseIdx_cons_succ,Yy,Yy];omega
theorem RM.setc_pot (r:RM)(k:Nat)(c:CV):(r.setc k c).pot=r.pot∧(r.setc k c).lost=r.lost:=⟨rfl,rfl⟩
theorem RM.out_pot {r:RM}{i:Nat}{p:PK}(h:r.way[i]?=some p):(r.out i).pot+(p.wt:Int)=r.pot∧(r.out i).lost=r.lost:=by
 have:=Qtf h
 unfold RM.pot RM.out;dsimp only;omega
theorem RMok.comes_pot {N:Int}{r:RM}(h:RMok N r){p:PK}{c:CV}(hc:r.cl[p.k]?=some c)(hp:PKok r.srv c p):(r.comes p).pot≤r.pot+(p.wt:Int)∧r.lost≤(r.comes p).lost:=by
 have hln:=h.ln;have hpw:=p.wt_le;unfold RM.comes
 split
 ·rename_i hk
  have h1:=(h.served (p:=p) (c:=c) hc hp hk).ln;have h2:=RM.tells_pot { r with srv:=(r.srv.take p.k p.id p.rev p.en.op).2 } p.k p.rev;have h4:=r.srv.take_tk' p.k p.id p.rev p.en.op;have e2:p.wt=1000:=by unfold PK.wt;rw[if_pos (.inl hk)]
  have e5:RM.pot { r with srv:=(r.srv.take p.k p.id p.rev p.en.op).2 }≤r.pot+1:=by unfold RM.pot;dsimp only;omega
  dsimp only at h1 h2 ⊢
  split
  ·have h3:=RM.send_pot (RM.tells { r with srv:=(r.srv.take p.k p.id p.rev p.en.op).2 } p.k p.rev) ⟨4,p.k,((r.srv.take p.k p.id p.rev p.en.op).2.log.length:Int),p.id,Zg⟩;have e3:(⟨4,p.k,((r.srv.take p.k p.id p.rev p.en.op).2.log.length:Int),p.id,Zg⟩:PK).wt=1:=rfl;rw[e3] at h3;omega
  ·omega
 split
 ·rename_i hk
  have h2:=r.tells_pot p.k p.rev;have e2:p.wt=1000:=by unfold PK.wt;rw[if_pos (.inr hk)]
  omega
 split
 ·split
  ·obtain⟨e1,e2⟩:=r.setc_pot p.k (CV.take (by assumption) p.rev p.en);omega
  ·omega
 split
 ·split
  ·obtain⟨e1,e2⟩:=r.setc_pot p.k (CV.refused (by assumption) p.id);omega
  ·omega
 ·omega
theorem RMok.deliver_pot {N:Int}{r:RM}(h:RMok N r)(i:Nat):(r.deliver i).pot≤r.pot∧r.lost≤(r.deliver i).lost:=by
 unfold RM.deliver
 split
 ·rename_i p hp
  obtain⟨c,hc,hpk⟩:=h.way p (List.mem_of_getElem? hp);have h1:=(h.out i).comes_pot (p:=p) (c:=c) hc hpk;have h2:=RM.out_pot hp;omega
 ·exact⟨Wba _,Wba _⟩
theorem RM.outs_pot (r:RM)(i:Nat):(r.out i).pot≤r.pot∧(r.out i).lost=r.lost:=by
 cases hp:r.way[i]? with
 | none =>
  have:r.way.eraseIdx i=r.way:=List.eraseIdx_of_length_le (List.getElem?_eq_none_iff.1 hp)
  unfold RM.out RM.pot;rw[this]
  exact⟨Wba _,rfl⟩
 | some p=>have:=RM.out_pot hp;have:=p.wt_le;omega
theorem RM.again_pot (r:RM)(i:Nat):(r.again i).pot≤r.pot+1000∧r.lost≤(r.again i).lost:=by
 unfold RM.again
 split
 ·rename_i p _
  have:=r.send_pot p;have:=p.wt_le;omega
 ·omega
theorem RM.asks_pot (r:RM)(k:Nat):(r.asks k).pot≤r.pot+1000∧r.lost≤(r.asks k).lost:=by
 unfold RM.asks
 split
 ·rename_i c _
  have:=r.send_pot (c.asks k);have:=(c.asks k).wt_le;omega
 ·omega
theorem RM.edit_pot (r:RM)(k:Nat)(l:List PT):(r.edit k l).pot=r.pot∧(r.edit k l).lost=r.lost:=by
 unfold RM.edit
 split<;>exact⟨rfl,rfl⟩
theorem RMok.flows_pot {N:Int}{r:RM}(h:RMok N r):r.flows.pot≤r.pot∧r.lost≤r.flows.lost :=
 (h.flows_ind (I:=fun x=>x.pot≤r.pot∧r.lost≤x.lost) (fun x hx hi _=>by have:=hx.deliver_pot 0;omega) ⟨Wba _,Wba _⟩).1
theorem RMok.turn_pot {N:Int}{r:RM}(h:RMok N r)(k:Nat):(r.turn k).pot≤r.pot+1000∧r.lost≤(r.turn k).lost:=by
 have h1:=(h.asks k).flows_pot;have h2:=r.asks_pot k;unfold RM.turn;omega
theorem RMok.turns_pot {N:Int}{r:RM}(h:RMok N r)(hw:r.way=[])(n:Nat):(r.turns n).pot≤r.pot+n*1000∧r.lost≤(r.turns n).lost:=by
 induction n with
 | zero=>simp[RM.turns]
 | succ n ih =>
  have h1:=(h.turns hw n).1.turn_pot n;rw[RM.turns_succ];omega
theorem RMok.quiet_pot {N:Int}{r:RM}(h:RMok N r):r.quiet.pot≤r.pot+r.cl.length*1000∧r.lost≤r.quiet.lost:=by
 obtain⟨h1,h2⟩:=h.flows;have h3:=h.flows_pot;have h4:=h1.turns_pot h2 r.cl.length;unfold RM.quiet;omega
structure RMb (N B:Int)(r:RM):Prop where
 ok:RMok N r
 n8:r.srv.No8
 l0:0≤r.lost
 pot:r.pot≤B
theorem RMb.bd {N B:Int}{r:RM}(h:RMb N B r):r.lost≤B∧(r.srv.tk:Int)≤B:=by
 have:=h.pot
 have:=h.l0
 unfold RM.pot at this
 have:=h.pot
 unfold RM.pot at this;omega
theorem RMb.deliver {N B:Int}{r:RM}(h:RMb N B r)(i:Nat):RMb N B (r.deliver i):=by
 have h1:=h.ok.deliver_pot i
 have:=h.pot;have:=h.l0
 exact⟨h.ok.deliver i,RM.deliver_no8 h.n8 i,by omega,by omega⟩
theorem RMb.asks {N B:Int}{r:RM}(h:RMb N B r)(k:Nat):RMb N (B+1000) (r.asks k):=by
 have h1:=r.asks_pot k
 have:=h.pot;have:=h.l0
 exact⟨h.ok.asks k,by rw[(r.asks_srv k).1];exact h.n8,by omega,by omega⟩
theorem RMb.again {N B:Int}{r:RM}(h:RMb N B r)(i:Nat):RMb N (B+1000) (r.again i):=by
 have h1:=r.again_pot i
 have:=h.pot;have:=h.l0
 refine⟨h.ok.again i,?_,by omega,by omega⟩;unfold RM.again
 split
 ·rw[(r.send_srv _).1];exact h.n8
 ·exact h.n8
theorem RMb.out {N B:Int}{r:RM}(h:RMb N B r)(i:Nat):RMb N B (r.out i):=by
 have h1:=r.outs_pot i
 have:=h.pot;have:=h.l0
 exact⟨h.ok.out i,h.n8,by omega,by omega⟩
theorem RMb.edit {N B:Int}{r:RM}(h:RMb N B r)(k:Nat)(l:List PT):RMb (N+1) B (r.edit k l):=by
 have h1:=r.edit_pot k l
 have:=h.pot;have:=h.l0
 refine⟨h.ok.edit k l,?_,by omega,by omega⟩;unfold RM.edit
 split<;>exact h.n8
theorem RMb.flows {N B:Int}{r:RM}(h:RMb N B r):RMb N B r.flows:=by
 have h1:=h.ok.flows_pot
 have:=h.pot;have:=h.l0
 exact⟨h.ok.flows.1,h.ok.quiet_no8 h.n8,by omega,by omega⟩
theorem RMb.quiet {N B:Int}{r:RM}(h:RMb N B r):RMb N (B+r.cl.length*1000) r.quiet:=by
 have h1:=h.ok.quiet_pot
 have:=h.pot;have:=h.l0
 exact⟨h.ok.quiet.1,(h.ok.quiet_spec h.n8).1,by omega,by omega⟩
theorem RMb.mono {N N' B B':Int}{r:RM}(h:RMb N B r)(hN:N≤N')(hB:B≤B'):RMb N' B' r:=⟨h.ok.mono hN,h.n8,h.l0,Int.le_trans h.pot hB⟩
theorem RM.edit_cl (r:RM)(k:Nat)(l:List PT):(r.edit k l).cl.length=r.cl.length:=by
 unfold RM.edit
 split
 ·exact List.length_set
 ·rfl
theorem RM.again_cl (r:RM)(i:Nat):(r.again i).srv=r.srv∧(r.again i).cl=r.cl:=by
 unfold RM.again
 split
 ·exact r.send_srv _
 ·exact⟨rfl,rfl⟩
inductive PlayS (R:RM):Bool→RM→Prop
 | edit (k:Nat) (l:List PT) (q:Bool):PlayS R q (R.edit k l)
 | asks (k:Nat) (q:Bool):PlayS R q (R.asks k)
 | deliver (i:Nat) (q:Bool):PlayS R q (R.deliver i)
 | out (i:Nat) (q:Bool):PlayS R q (R.out i)
 | again (i:Nat) (q:Bool):PlayS R q (R.again i)
 | quiet:PlayS R true R.quiet
 | same (q:Bool):PlayS R q R
theorem PlayS.ok {R R':RM}{q:Bool}{N B:Int}(h:PlayS R q R')(hb:RMb N B R)(hc:R.cl.length≤100):RMb (N+1) (B+100000) R'∧R'.cl.length=R.cl.length:=by
 cases h with
 | edit k l=>exact⟨(hb.edit k l).mono (by omega) (by omega),R.edit_cl k l⟩
 | asks k=>exact⟨(hb.asks k).mono (by omega) (by omega),by rw[(R.asks_srv k).2]⟩
 | deliver i=>exact⟨(hb.deliver i).mono (by omega) (by omega),R.deliver_cl i⟩
 | out i=>exact⟨(hb.out i).mono (by omega) (by omega),rfl⟩
 | again i=>exact⟨(hb.again i).mono (by omega) (by omega),by rw[(R.again_cl i).2]⟩
 | quiet=>exact⟨hb.quiet.mono (by omega) (by omega),hb.ok.quiet.2.2.1⟩
 | same=>exact⟨hb.mono (by omega) (by omega),rfl⟩
end
section
def kept (p:PT)(d:List Int):List Int:=if 0<p.keep then d else []
structure PlI (R:List Int)(u:Int)(l:List PT)(k:Nat)(P Q T:List Int):Prop where
 k_le:k≤l.length
 eq:R=P++Q
 rest:was (l.drop k)=(cnt Q).of u
 op:∃ O X,OpR O X P∧T=rap X P∧(tnF R u 1 Cn.zero 0 l).1=O++(tnF R u 1 (cnt P) ((cnt P).of u) (l.drop k)).1∧(tnF R u 1 Cn.zero 0 l).2=(tnF R u 1 (cnt P) ((cnt P).of u) (l.drop k)).2
 siz:bl T+Qd (l.drop k)≤bl P+Qd l
theorem PlI.start {R:List Int}{u:Int}{l:List PT}(h:was l=(cnt R).of u):PlI R u l 0 [] R [] :=
 ⟨Nat.zero_le _,rfl,h,⟨[],[],.nil,rfl,by rw[QQ,ZC];rfl,by rw[QQ,ZC];rfl⟩,by simp⟩
theorem Qbz {α:Type}{X Y:List (RU α)}{R S:List α}(h:Qc X=R.length):rap (X++Y) (R++S)=rap X R++rap Y S:=by
 induction X generalizing R with
 | nil=>obtain rfl:=List.length_eq_zero_iff.1 h.symm;simp[rap]
 | cons x X ih =>
  cases x with
  | p r=>simp only[Wap,rap,ih (R:=R) h]
  | k=>cases R with
   | nil=>simp[Qc] at h
   | cons r R=>simp only[Wap,rap,ih (R:=R) (by simpa [Qc] using h)]
  | d=>cases R with
   | nil=>simp[Qc] at h
   | cons r R=>simp only[Wap,rap,ih (R:=R) (by simpa [Qc] using h)]
theorem PlI.stop {R:List Int}{u:Int}{l:List PT}{k:Nat}{P Q T:List Int}(h:PlI R u l k P Q T)(hu:1≤u∧u≤3)(hg:∀ p∈l,p.Good)(hk:k<l.length)(hno:∀ d q,Q=d++q→(cnt d).of u≠l[k].keep+l[k].drop):(tnF R u 1 Cn.zero 0 l).2=10:=by
 obtain⟨O,X,-,-,-,e⟩:=h.op;have hn:=(hg _ (Wau hk)).1.2;obtain⟨c,e',hA⟩:=Qgj u ((cnt P).of u+(l[k].keep+l[k].drop)) R;have hr:=h.rest
 have hin:¬ ((cnt P).of u+(l[k].keep+l[k].drop)<0∨(cnt R).of u<(cnt P).of u+(l[k].keep+l[k].drop)):=by
  have h1:=QJ P u;have h2:0≤was (l.drop (k+1)):=ZJ fun p hp=>(hg p (List.mem_of_mem_drop hp)).1
  rw[ZW hk,was] at hr;rw[h.eq,Qp];omega
 have h10:e'=10:=by
  rcases hA.2.2 (by omega) hin with ⟨-,hp⟩ | ⟨e2,-⟩
  ·rw[h.eq] at hp;obtain⟨d,q,rfl,-,hd⟩:=XN rfl (by omega) hu hp;exact absurd hd (hno d q rfl)
  ·exact Xw (b:=10) e2
 subst h10;rw[e,ZW hk,Qdh hA (by decide)]
theorem PlI.step {R:List Int}{u:Int}{l:List PT}{k:Nat}{P d q T:List Int}(h:PlI R u l k P (d++q) T)(hu:1≤u∧u≤3)(hg:∀ p∈l,p.Good)(hk:k<l.length)(hd:(cnt d).of u=l[k].keep+l[k].drop){rs:List Int}(hrs:l[k].put=U.encs rs)(hal:U.AllR rs) :
  PlI R u l (k+1) (P++d) q (T++(kept l[k] d++rs)):=by
 obtain⟨O,X,ho,ht,e1,e2⟩:=h.op;have hgk:=hg _ (Wau hk);have hn:=hgk.1.2;have hA:Q3 u ((cnt P).of u+(l[k].keep+l[k].drop)) R (cnt (P++d)) (erV 0):=Pl.ahead hu ⟨P++d,q,by rw[h.eq,Wah],by rw[Qp,hd],rfl⟩;have e3:(cnt P).of u+(l[k].keep+l[k].drop)=(cnt (P++d)).of u:=by rw[Qp,hd]
 have hr:=h.rest;rw[ZW hk,was,Qp] at hr;rw[ZW hk,YJ hA,e3] at e1 e2;have hs:=h.siz;rw[ZW hk,Qd,hrs] at hs;have hbr:(U.encs rs).length=bl rs:=rfl;have e4:(cnt (P++d)).of 1-(cnt P).of 1=bl d:=by rw[Qp,ZH d];omega
 rw[e4] at e1
 have hd0:l[k].keep+l[k].drop=0→d=[]:=fun e=>by
  have:=Y5 d hu
  exact List.length_eq_zero_iff.1 (by omega)
 have hd1:0<l[k].keep+l[k].drop→d≠[]:=fun e e'=>by
  subst e';rw[QQ,ZC] at hd;omega
 refine⟨by omega,by rw[h.eq,Wah],by omega,?_,?_⟩
 ·generalize l[k]=p at *;rcases hgk.1.cases with ⟨b,hb,rfl⟩ | ⟨n,hn',rfl⟩ | ⟨n,hn',rfl⟩
  ·dsimp only at hrs hd0 hd1;subst hrs;obtain rfl:=hd0 rfl;have hne:rs≠[]:=by rintro rfl;exact hb rfl
   have hx:=OpR.put hne hal OpR.nil;refine⟨O++[⟨0,0,U.encs rs⟩],X++(rs.map .p++[]),by have:=ho.append hx;rwa [Wam] at this ⊢,?_,?_,e2⟩
   ·have e5:=Qbz (X:=X) (Y:=rs.map .p++[]) (R:=P) (S:=[]) ho.was_;have e6:=Qwv rs [] [];rw[e5,e6,← ht];simp[kept,rap]
   ·rw[e1,Jz];simp
  ·dsimp only at hrs hd0 hd1
   have hrs0:rs=[]:=by
    by_cases e:rs=[]
    ·exact e
    ·exact absurd hrs.symm (ZZ e)
   subst hrs0;have hne:=hd1 (by omega);have hx:=OpR.drop hne OpR.nil;refine⟨O++[⟨0,(bl d:Nat),[]⟩],X++(List.replicate d.length .d++[]),by have:=ho.append hx;rwa [Wam d] at this,?_,?_,e2⟩
   ·rw[Qbz ho.was_,← ht]
    have:=Qwx d [] []
    rw[Wam d] at this;rw[this];simp[kept,rap]
   ·rw[e1,J2 hn'];simp
  ·dsimp only at hrs hd0 hd1
   have hrs0:rs=[]:=by
    by_cases e:rs=[]
    ·exact e
    ·exact absurd hrs.symm (ZZ e)
   subst hrs0;have hne:=hd1 (by omega);have hx:=OpR.keep hne OpR.nil;refine⟨O++[⟨(bl d:Nat),0,[]⟩],X++(List.replicate d.length .k++[]),by have:=ho.append hx;rwa [Wam d] at this,?_,?_,e2⟩
   ·rw[Qbz ho.was_,← ht]
    have:=Qww d [] []
    rw[Wam d] at this;rw[this];unfold kept;rw[if_pos (by dsimp only;omega)];simp[rap]
   ·rw[e1,J3 hn'];simp
 ·rw[bl_append,bl_append,bl_append];have hkd:bl (kept l[k] d)≤bl d:=by unfold kept;split<;>simp
  omega
theorem PlI.finish {R:List Int}{u:Int}{l:List PT}{k:Nat}{P Q T:List Int}(h:PlI R u l k P Q T)(hu:1≤u∧u≤3)(hk:k=l.length):(tnF R u 1 Cn.zero 0 l).2=0∧∃ X,OpR (tnF R u 1 Cn.zero 0 l).1 X R∧T=rap X R:=by
 obtain⟨O,X,ho,ht,e1,e2⟩:=h.op;have hr:=h.rest;rw[hk,List.drop_length] at e1 e2 hr;rw[tnF] at e1 e2;rw[was] at hr
 have hq:Q=[]:=by
  have:=Y5 Q hu
  exact List.length_eq_zero_iff.1 (by omega)
 subst hq;have he:=h.eq;rw[Wam] at he e1;subst he
 exact⟨e2,X,by rw[e1];exact ho,ht⟩
end
section
open Go.RowKit
theorem YL {x:Int}(h0:0≤x)(h1:x<256)(hx:x≠10):(U.by8 x == 10)=false:=by
 rw[Waf];intro e;have t:=U.by8_toNat h0 h1;rw[e] at t;have h10:(((10:UInt8).toNat:Nat):Int)=10:=rfl;omega
theorem Qtm {r:Int}(h:U.right r=true):(U.enc r).count 10=if r=10 then 1 else 0:=by
 have hr:=U.right_iff.1 h;unfold U.enc
 by_cases c1:r<128
 ·rw[if_pos c1]
  by_cases e:r=10
  ·subst e;rfl
  ·rw[if_neg e,List.count_cons,YL (by omega) (by omega) e];rfl
 ·rw[if_neg c1,if_neg (show ¬ r=10 by omega)]
  by_cases c2:r<2048
  ·rw[if_pos c2,List.count_cons,List.count_cons,YL (by omega) (by omega) (by omega),YL (by omega) (by omega) (by omega)];rfl
  ·rw[if_neg c2]
   by_cases c3:r<65536
   ·rw[if_pos c3,List.count_cons,List.count_cons,List.count_cons,YL (by omega) (by omega) (by omega),YL (by omega) (by omega) (by omega),YL (by omega) (by omega) (by omega)];rfl
   ·rw[if_neg c3,List.count_cons,List.count_cons,List.count_cons,List.count_cons,YL (by omega) (by omega) (by omega),YL (by omega) (by omega) (by omega),YL (by omega) (by omega) (by omega),YL (by omega) (by omega) (by omega)];rfl
theorem Qio {rs:List Int}(h:U.AllR rs):cnt rs=⟨(U.encs rs).length,(U.hvs rs).length,rs.length,((U.encs rs).count 10:Nat)⟩:=by
 suffices hs:∀ n (rs:List Int),rs.length=n→U.AllR rs→cnt rs=⟨(U.encs rs).length,(U.hvs rs).length,rs.length,((U.encs rs).count 10:Nat)⟩ from hs _ rs rfl h
 clear h rs;intro n
 induction n with
 | zero=>intro rs hl _;obtain rfl:=List.eq_nil_of_length_eq_zero hl;rfl
 | succ n ih =>
  intro rs hl ha;rcases List.eq_nil_or_concat rs with rfl | ⟨a,r,rfl⟩
  ·simp at hl
  ·rw[List.concat_eq_append] at *;have hr:U.right r=true:=ha r (by simp);have ha':U.AllR a:=fun x hx=>ha x (by simp[hx])
   rw[YM,ih a (by simpa using hl) ha',U.encs_append,U.hvs_append,U.encs_cons,U.encs_nil,U.hvs_cons,U.hvs_nil,Wam,Wam,List.count_append,Qtm hr];simp only[Cn.add,Q7,Wad,U.hv_length,U.enc_length,Wan,List.length_nil];refine Cn.mk.injEq .. |>.mpr ⟨by omega,?_,by omega,?_⟩
   ·unfold U.hwid
    split<;>split<;>omega
   ·split<;>omega
end
section
open Go.RowKit
theorem Qv7 {q:List Int}(h:0<(cnt q).l):∃ a b,q=a++10 :: b∧(cnt a).l=0:=by
 induction q with
 | nil=>rw[QQ] at h;exact absurd h (by decide)
 | cons r q ih =>
  by_cases hr:r=10
  ·subst hr;exact⟨[],q,rfl,rfl⟩
  ·have e:(r :: q)=[r]++q:=rfl;rw[e,QZ,XJ,if_neg hr] at h;obtain⟨a,b,rfl,ha⟩:=ih (by omega);refine⟨r :: a,b,rfl,?_⟩;rw[show (r :: a)=[r]++a from rfl,QZ,XJ,if_neg hr,ha];rfl
theorem Zd {a b:List Int}(h:U.AllR (a++b)):U.AllR a∧U.AllR b:=⟨fun r hr=>h r (List.mem_append_left _ hr),fun r hr=>h r (List.mem_append_right _ hr)⟩
end
section
open Go.RowKit
section
variable {P:Program}{ops:Array Oper}{Q:Exit→Act→World→Prop}{a:Act}{W:World}{rest:List Oper}{o:Oper}{s x:Operand}{t e:TypeId}{size bytes base n m:Nat}{v:Value}{xs:List Value}
theorem Qg0 (E:El P t e size bytes)(ys:List Value)(u:Value)(hown:W.ownsRow base e size v n xs)(hsl:Sl W size u m ys)(hgd:o.guard=none)
  (ho:o.op=.call { callee:=.builtin .append,args:=#[s,x],argTypes:=#[t,t] }) (hs:a.eval s=v) (hx:a.eval x=u)
  (h1:∀ u∈ys,u.oneCell'=true) (h63:n+m≤maxLen) (hbytes:(n+m)*bytes≤140737488355328) (hbase:base≤W.heap.size)
  (h:∀ v' w',w'.ownsRow base e size v' (n+m) (xs++ys)→Below base W w'→W.grownBy w' v.ownBlock→(∀ k,v'.ownBlock=some k→v.ownBlock=some k∨W.heap.size≤k)→wpList P ops Q rest (a.put o.dst v') w'):wpList P ops Q (o :: rest) a W:=by
 obtain⟨i,z,hi,hz,hsi,hby,hzs⟩:=E.hi;have hlt:=hown.lt
 have fin:∀ v' w',w'.ownsRow base e size v' (n+m) (xs++ys)→W.grownBy w' v.ownBlock→(∀ k,v'.ownBlock=some k→v.ownBlock=some k∨W.heap.size≤k)→wpList P ops Q rest (a.put o.dst v') w':=fun v' w' ho' hg' hk=>by
  refine h v' w' ho' ⟨hg'.os,hg'.tape,hg'.output,hg'.size,fun k hk=>?_⟩ hg' hk;exact hg'.block k (by omega) (fun e=>by have:=hlt k e.symm;omega)
 obtain⟨A,c,rfl,hl,_,_,h4,h5⟩:=hsl
 cases A with
 | none =>
  have hm:m=0:=by
   rcases Nat.eq_zero_or_pos m with h | h
   ·exact h
   ·obtain⟨ad,hh,_⟩:=h5 h
    cases hh
  subst hm;obtain rfl:=h4 rfl;have hy:ys=[]:=List.eq_nil_of_length_eq_zero (by simpa using hl);subst hy;refine wpList_append_own_none hgd s x t ho base e i size E.ht hi v n xs hs hown hx ?_;refine fin v W ?_ ⟨rfl,rfl,rfl,Wak _,fun _ _ _=>rfl⟩ (fun k hk=>.inl hk);simpa using hown
 | some ad =>
  refine wpList_append_own_at _ hgd s x t ho base e i z size bytes E.ht hi hz hsi hby hzs E.pos v n xs hs hown ad m c ys hx hl ?_ h1 h63 hbytes hbase ?_
  ·intro j u hu
   have hj:j<ys.length:=by
    rcases Nat.lt_or_ge j ys.length with h | h
    ·exact h
    ·rw[List.getElem?_eq_none h] at hu;cases hu
   have hm:0<m:=by
    rcases Nat.eq_zero_or_pos m with h | h
    ·subst h;simp at hl;subst hl;simp at hj
    ·exact h
   obtain⟨ad',e',_,hc⟩:=h5 hm
   cases e'
   exact hc j u hu
  ·intro v' w' ho' hg' _ hk;refine fin v' w' ho' hg' (fun k hk'=>?_);rcases hk with hk | hk
   ·exact .inl (hk ▸ hk')
   ·rw[hk] at hk'
    have:=Wbg hk'
    exact .inr (by omega)
end
end
section
open Go.RowKit Go.Sort
structure Glo (w : World) : Prop where
  hdl : Hdl w
  syn : ∃ te pe, w.var? Tryz.prog "strconv.ErrSyntax" = some #[.iface te pe]
  rng : ∃ te pe, w.var? Tryz.prog "strconv.ErrRange" = some #[.iface te pe]
  tab : Lib.TabIs Tryz.prog w "internal/strconv.uint64pow10" .u64 Lib.pow10Tab
  lo : 9 ≤ w.heap.size
theorem Qb2 {w w':World}{n:String}{g:Nat}{x:Array Value}(hg:prog.globalNamed n=some g)(h:w.var? prog n=some x)(hb:w'.heap[g]?=w.heap[g]?):w'.var? prog n=some x:=by
 unfold World.var? at h ⊢;rw[hg] at h ⊢;simp only[Option.bind_some] at h ⊢
 first | rw[hb];exact h | (simp only[hb];exact h)
theorem Glo.same {w w':World}(h:Glo w)(hs:w.heap.size≤w'.heap.size)(hb:∀ g,g<9→w'.heap[g]?=w.heap[g]?):Glo w':=by
 obtain⟨h1,⟨te,pe,h2⟩,⟨te',pe',h3⟩,h4,h5⟩:=h;refine⟨?_,⟨te,pe,Qb2 (g:=4) (by kernel_rfl) h2 (hb _ (by decide))⟩,⟨te',pe',Qb2 (g:=5) (by kernel_rfl) h3 (hb _ (by decide))⟩,Qb2 (g:=6) (by kernel_rfl) h4 (hb _ (by decide)),Wbf h5 hs⟩;unfold Hdl at h1 ⊢;rw[← h1];exact World.cell?_of_block (hb _ (by decide))
theorem Glo.below {w w':World}(h:Glo w)(hb:Below w.heap.size w w'):Glo w':=h.same hb.size (fun g hg=>hb.block g (Wal hg h.lo))
theorem Glo.only {w w':World}{S:Nat→Prop}(h:Glo w)(ho:Only S w w')(hS:∀ j,S j→9≤j):Glo w':=h.same ho.size (fun g hg=>ho.block g (Wal hg h.lo) (fun e=>by have:=hS g e;omega))
end
section
open Go.ChangeShapes Go.WideShapes Go.ChangeAt Go.RowKit
theorem ownK:ownKnob prog.godebug=none:=by kernel_rfl
theorem laidOut:laidOutB prog=true:=by kernel_rfl
theorem Qr3 : Tryz.prog.globalNamed "errors.errorType" = some 0 := by kernel_rfl
theorem Qr4 : (Tryz.prog.cutTypes.find? (·.1 == "internal/reflectlite.rtype")).map (·.2) = some 347 := by kernel_rfl
theorem Qr5:((List.range prog.types.size).filter fun t=>prog.rowNamed t [101,114,114,111,114])=[24]:=by kernel_rfl
theorem Qr6 {W : World} (h : laidMetH Tryz.prog [("errors.errorType", Rows.laid_errors_errorType)] W) : Hdl W := by
  have h' : laidMet Tryz.prog [] W ∧ handlesMet Tryz.prog [("errors.errorType", Rows.laid_errors_errorType)] W := h
  obtain ⟨name, u, ty, e1, e2, e3, e4, e5⟩ := h'.2 _ (Wbd.2 rfl)
  have en : name = [101, 114, 114, 111, 114] := (Wbg e1).symm
  subst en
  obtain rfl := Wbg (Qr4.symm.trans e2)
  have hm : ty ∈ (List.range Tryz.prog.types.size).filter fun t => Tryz.prog.rowNamed t [101, 114, 114, 111, 114] := List.mem_filter.2 ⟨List.mem_range.2 e3, e4⟩
  rw [Qr5] at hm
  obtain rfl := Wbd.1 hm
  have hh : typeHandle Tryz.prog 24 = .pointer (some ⟨9, 24, none⟩) := by kernel_rfl
  rw [hh] at e5
  have := World.var?_cell Qr3 e5 0
  unfold Hdl
  simpa using this
noncomputable def Qhf (os:Os):World :=
 let w0:=World.holding prog os ⟨#[],#[],[]⟩
 { w0 with heap:=w0.heap.modify 0 fun
   | .cells _ t frozen=>.cells #[.iface 347 (.agg #[.pointer (some ⟨9,24,none⟩)])] t frozen
   | o=>o }
end
section
open Go.ChangeShapes Go.WideShapes Go.ChangeAt Go.RowKit
def dlaid : List (String × DataW Unit) := [("math/bits.deBruijn32tab", Rows.laid_math_bits_deBruijn32tab), ("math/bits.deBruijn64tab", Rows.laid_math_bits_deBruijn64tab), ("internal/strconv.uint64pow10", Rows.laid_internal_strconv_uint64pow10), ("unicode/utf8.acceptRanges", Rows.laid_unicode_utf8_acceptRanges), ("errors.errorType", Rows.laid_errors_errorType), ("strconv.ErrRange", Rows.laid_strconv_ErrRange), ("strconv.ErrSyntax", Rows.laid_strconv_ErrSyntax), ("unicode/utf8.first", Rows.laid_unicode_utf8_first)]
def Xg : List (String × DataW Unit) := [("math/bits.deBruijn32tab", Rows.laid_math_bits_deBruijn32tab), ("math/bits.deBruijn64tab", Rows.laid_math_bits_deBruijn64tab), ("internal/strconv.uint64pow10", Rows.laid_internal_strconv_uint64pow10), ("unicode/utf8.acceptRanges", Rows.laid_unicode_utf8_acceptRanges), ("strconv.ErrRange", Rows.laid_strconv_ErrRange), ("strconv.ErrSyntax", Rows.laid_strconv_ErrSyntax), ("unicode/utf8.first", Rows.laid_unicode_utf8_first)]
theorem Qjx:(dlaid.filter fun x=>x.2.handleName?.isNone)=Xg:=by kernel_rfl
theorem Qwq : (dlaid.filter fun x => x.2.handleName?.isSome) = [("errors.errorType", Rows.laid_errors_errorType)] := by kernel_rfl
theorem iface_of_trod {H:Type}{enc:TypeId × Value→H}{P:Program}{w:World}{base:Nat}{sp:Nat→Bool}{fuel:Nat}{t:TypeId}{m:Array (String × TypeId)}{cs:List Value}{n:String}{d:DataW H}{p:List MemPlace}
  (ht:P.underlying t=some (.interface m)) (h:DataW.trod enc P w base sp false fuel t cs=some (.iface n d,p)):∃ u v,cs=[.iface u v]:=by
 cases fuel with
 | zero=>simp[DataW.trod] at h
 | succ fuel =>
  simp only[DataW.trod,ht] at h
  split at h<;>simp_all
theorem size_of_shaped {w:World}(h:w.ShapedOpen prog):9≤w.heap.size:=by
 have hb:(begin prog (fun _ _=>0) default).world.heap.size=9+5:=by kernel_rfl
 have hg:prog.globals.size=9:=by kernel_rfl
 obtain⟨o,o0,h1,-⟩:=h.2 9 (by rw[hg];exact Wak _) (by rw[hb];omega)
 have:=(Wbm.1 h1).1
 omega
theorem glo_of_laid {W : World} (h : laidMetH Tryz.prog dlaid W) (hs : 9 ≤ W.heap.size) : Glo W := by
  unfold laidMetH at h
  rw [Qwq, Qjx] at h
  obtain ⟨⟨ps, hv, -⟩, hh⟩ := h
  obtain ⟨_, _, _, _, _, _, -, -, -, -, hv, -⟩ := hv
  obtain ⟨_, _, _, _, _, _, -, -, -, -, hv, -⟩ := hv
  obtain ⟨g3, t3, c3, f3, p3, q3, a3, b3, d3, e3, hv, -⟩ := hv
  obtain ⟨_, _, _, _, _, _, -, -, -, -, hv, -⟩ := hv
  obtain ⟨g5, t5, c5, f5, p5, q5, a5, b5, d5, e5, hv, -⟩ := hv
  obtain ⟨g6, t6, c6, f6, p6, q6, a6, b6, d6, e6, hv, -⟩ := hv
  refine ⟨Qr6 ⟨laidMet_nil _ _, hh⟩, ?_, ?_, ?_, hs⟩
  · obtain rfl := Wbg (a6.symm.trans (show Tryz.prog.globalNamed "strconv.ErrSyntax" = some 4 by kernel_rfl))
    obtain rfl := Wbg (b6.symm.trans (show (Tryz.prog.globals[4]?).map (·.type) = some 24 by kernel_rfl))
    obtain ⟨u, v, e⟩ := iface_of_trod Tryz.underlying24 e6
    exact ⟨u, v, by rw [d6, ← e, Array.toArray_toList]⟩
  · obtain rfl := Wbg (a5.symm.trans (show Tryz.prog.globalNamed "strconv.ErrRange" = some 5 by kernel_rfl))
    obtain rfl := Wbg (b5.symm.trans (show (Tryz.prog.globals[5]?).map (·.type) = some 24 by kernel_rfl))
    obtain ⟨u, v, e⟩ := iface_of_trod Tryz.underlying24 e5
    exact ⟨u, v, by rw [d5, ← e, Array.toArray_toList]⟩
  · unfold Lib.TabIs
    obtain rfl := Wbg (a3.symm.trans (show Tryz.prog.globalNamed "internal/strconv.uint64pow10" = some 6 by kernel_rfl))
    obtain rfl := Wbg (b3.symm.trans (show (Tryz.prog.globals[6]?).map (·.type) = some 361 by kernel_rfl))
    have hd : (Rows.laid_internal_strconv_uint64pow10 : DataW Unit) = Lib.tabData .u64 Lib.pow10Tab := by kernel_rfl
    rw [hd] at e3
    rw [d3, ← Lib.cells_of_tab (k := .u64) (zs := Lib.pow10Tab) Tryz.underlying361 Tryz.underlying40 (by kernel_rfl) (by kernel_rfl) e3, Array.toArray_toList]
noncomputable def dWorld (os:Os):World:=(Qhf os).layVars prog Xg
theorem dWorld_met (os:Os)(args:Array Value):laidMetH prog dlaid ((dWorld os).forCall (fun _ _=>0) ⟨#[],args,[]⟩).memory:=by
 have e1:(Xg.filter fun x=>(Xg.map (·.1)).contains x.1)=Xg:=by kernel_rfl
 have e2:(Xg.filter fun x=>!(Xg.map (·.1)).contains x.1)=[]:=by kernel_rfl
 have h:laidMet prog Xg (dWorld os):=laidMet_layVars (w0:=Qhf os) (Xg.map (·.1)) [] (by rw[e1];rfl) (by rw[e1];kernel_rfl) (by rw[e1];kernel_rfl) (by rw[e2];exact LaidIn.none);exact laidMetH_of_parts (by rw[Qjx];exact h.of_heap (by simp[World.memory,World.forCall,Input.heap])) (by kernel_rfl)
end
end Go.Proofs.YtckkgdmkfbkaoaaGreatDoor
