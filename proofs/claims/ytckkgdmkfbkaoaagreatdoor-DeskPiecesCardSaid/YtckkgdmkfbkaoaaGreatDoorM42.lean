/- Texts of the proof. -/
import Derived.Test.YtckkgdmkfbkaoaaGreatDoorM35
import Derived.Test.YtckkgdmkfbkaoaaGreatDoorM41
namespace Go.Proofs.YtckkgdmkfbkaoaaGreatDoor
open Go.Proofs.Tryz
set_option maxRecDepth 100000
set_option maxHeartbeats 32000000
set_option linter.all false
section
open Go.RowKit
theorem YS:El prog 192 245 1 2:=El.mk' underlying192 (by kernel_rfl) (by decide)
theorem JY (R:List Int):∀ v∈Qt (U.hvs R),v.oneCell'=true:=by
 intro v hv;unfold Qt at hv;obtain⟨x,-,rfl⟩:=List.mem_map.1 hv
 rfl
theorem ZT (a b:List Int):Qt (U.hvs (a++b))=Qt (U.hvs a)++Qt (U.hvs b):=by rw[U.hvs_append];unfold Qt;rw[Wbo]
theorem QI (R:List Int):(Qt (U.hvs R)).length=(U.hvs R).length:=by unfold Qt;rw[Wbi]
theorem Qmt {n:Nat}{v:Value}{xs:List Value}{w:World}(h:Sl w 1 v n xs):Calls prog 298 #[v] w fun e w'=>(∃ v',e=.returned v'∧Sl w 1 v' n xs∧∀ B,Frs B v→Frs B v')∧w'=w:=by
 have HS:=Hm h;obtain⟨A,c,rfl,h2,h3,h4,h4',h5⟩:=h
 have hz:A=none→n=0:=fun e=>by
  by_cases hn:0<n
  ·obtain⟨ad,e',-⟩:=h5 hn;rw[e] at e';cases e'
  ·omega
 have HF:Hd (Sl w 1 (.slice A n n) n xs∧∀ B,Frs B (.slice A n c)→Frs B (.slice A n n)):=⟨⟨A,n,rfl,h2,Wak _,by omega,hz,h5⟩,fun B hB ad m c' e=>by
  cases e
  exact hB _ _ _ rfl⟩
 unfold maxLen at h4;clear h2 h4' h5 hz;have hc:(n:Int)≤(c:Int):=by omega
 by_cases hn:n=0
 ·subst hn;go_enter func298,ntmps298
  go_wp2_with fail;go_ret
  exact⟨⟨_,rfl,HF.o⟩,rfl⟩
 ·go_enter func298,ntmps298
  go_wp2_with fail;go_ret
  exact⟨⟨_,rfl,by have:=HF.o;simpa using this⟩,rfl⟩
def Ya (R:List Int)(a:Nat):Bool:=Z5 (U.hvs R) a
theorem n_H {R:List Int}(h:U.AllR R):(cnt R).of 2=((U.hvs R).length:Nat):=by rw[Qio h];rfl
theorem Qb7 {R:List Int}(h:U.AllR R){a:Nat}(ha:a≤(U.hvs R).length):Ya R a=false↔∃ p q,R=p++q∧(cnt p).of 2=(a:Int):=by
 unfold Ya;rw[Qo6 h ha]
 constructor
 ·rintro⟨p,q,e1,e2⟩
  exact⟨p,q,e1,by rw[n_H (Zd (e1 ▸ h)).1,e2]⟩
 ·rintro⟨p,q,e1,e2⟩
  exact⟨p,q,e1,by rw[n_H (Zd (e1 ▸ h)).1] at e2;omega⟩
theorem YT {R:List Int}{v:Value}{n a:Nat}{w:World}(hsl:Sl w 1 v n (Qt (U.hvs R)))(hR:U.AllR R)(hn:n≤1000000)(ha:a≤n) :
  Calls prog 266 #[v,.int .i64 a] w fun e w'=>e=.returned (.bool (Ya R a))∧w'=w:=Qr8 hsl (U.hvs_in hR) hn ha
def Qmu (R:List Int)(l:List PT)(w:World)(e:Ending)(w':World):Prop :=
 Below w.heap.size w w'∧((∃ v X,(tnF R 2 1 Cn.zero 0 l).2=0∧OpR (tnF R 2 1 Cn.zero 0 l).1 X R∧e=.returned (.tuple #[v,.nilIface])∧Sl w' 1 v (U.hvs (rap X R)).length (Qt (U.hvs (rap X R)))∧Frs w.heap.size v) ∨
  ((tnF R 2 1 Cn.zero 0 l).2=10∧e=.returned (.tuple #[.slice none 0 0,errno 10])))
theorem Qmv {P d q R:List Int}{w:World}{b o n c a:Nat}(h:Sl w 1 (.slice (some ⟨b,o,none⟩) n c) n (Qt (U.hvs R)))(hR:R=P++(d++q))(ha:(U.hvs P).length=a):Sl w 1 (.slice (some ⟨b,o+a,none⟩) (U.hvs d).length (c-a)) (U.hvs d).length (Qt (U.hvs d))∧Sl w 1 (.slice (some ⟨b,o+a,none⟩) 0 (c-a)) 0 []:=by
 have hn:(U.hvs R).length=n:=by have:=h.len;rw[QI] at this;omega
 have e1:Qt (U.hvs R)=Qt (U.hvs P)++(Qt (U.hvs d)++Qt (U.hvs q)):=by rw[hR,ZT,ZT]
 have e2:(U.hvs R).length=(U.hvs P).length+((U.hvs d).length+(U.hvs q).length):=by rw[← QI,← QI,← QI,← QI,e1,Wad,Wad]
 have h1:=h.part1 (i:=a) (m:=(U.hvs d).length) (by omega);have h2:=h.part1 (i:=a) (m:=0) (by omega);rw[e1,List.drop_left' (by rw[QI,ha]),List.take_left' (QI d)] at h1;rw[List.take_zero] at h2
 exact⟨h1,h2⟩
structure PlS_H (w:World)(bx:Nat)(x y:Int)(z:ByteArray)(w':World):Prop where
 below:Below w.heap.size w w'
 box:Blk w' bx 117 #[.int .i64 x,.int .i64 y,.string z]
abbrev XI (w:World)(bx:Nat)(x y:Int)(z:ByteArray)(w':World):Prop:=PlS_H w bx x y z w'∧w'.cell? ⟨bx,0,none⟩=some (.int .i64 x)∧w'.cell? ⟨bx,1,none⟩=some (.int .i64 y)∧w'.cell? ⟨bx,2,none⟩=some (.string z)
theorem PlS_H.x {w w':World}{bx:Nat}{x y:Int}{z:ByteArray}(h:PlS_H w bx x y z w'):XI w bx x y z w':=by
 have z0:=h.box.cell 0;have z1:=h.box.cell 1;have z2:=h.box.cell 2;simp only[Wab,Waa,Wae] at z0 z1 z2
 exact⟨h,z0,z1,z2⟩
theorem PlS_H.drew {w w':World}{bx:Nat}{x y:Int}{z:ByteArray}(h:PlS_H w bx x y z w'):PlS_H w bx x y z w'.drew:=⟨Qe h.below,h.box⟩
theorem PlS_H.call {w w' w2:World}{bx:Nat}{x y:Int}{z:ByteArray}(h:PlS_H w bx x y z w')(hb:Below w'.heap.size w' w2):PlS_H w bx x y z w2:=⟨Qa h.below hb,h.box.below hb h.box.lt⟩
theorem PlS_H.app {w w' w2:World}{bx:Nat}{x y:Int}{z:ByteArray}{v:Value}(h:PlS_H w bx x y z w')(hb:Below w.heap.size w' w2)(hg:w'.grownBy w2 v.ownBlock)(hv:v.ownBlock≠some bx):PlS_H w bx x y z w2 :=
 ⟨h.below.trans hb,h.box.only (Only.of_grown hg) (fun e=>hv e.symm)⟩
theorem Qb8 {R P d q:List Int}{a x:Nat}(hA:U.AllR R)(hR:R=P++(d++q))(ha:(U.hvs P).length=a)(hd:(cnt d).of 2=(x:Int)):(U.hvs (P++d)).length=a+x:=by
 have h:U.AllR ((P++d)++q):=by rw[Wah,← hR];exact hA
 have h1:=n_H (Zd h).1;have h2:=n_H (Zd (Zd h).1).1;rw[Qp,h2,hd,ha] at h1;omega
theorem nd_H {R P d q:List Int}{x:Nat}(hA:U.AllR R)(hR:R=P++(d++q))(hd:(cnt d).of 2=(x:Int)):(U.hvs d).length=x:=by
 have h:U.AllR (P++(d++q)):=hR ▸ hA;have h1:=n_H (Zd (Zd h).2).1;rw[hd] at h1;omega
section
attribute [local go_sem] Qz
theorem Qb9 {R:List Int}{l:List PT}{v1 v2:Value}{n1 n2:Nat}{w:World}(hR:U.AllR R)(hbl:bl R≤8000)(hs1:Sl w 1 v1 n1 (Qt (U.hvs R)))(hs2:Sl w 3 v2 n2 (opv l))(hg:∀ p∈l,p.Good)(hw:was l=(cnt R).of 2)(hpl:Qd l≤100000)(hn:n2≤100000) :
  Calls prog 264 #[v1,v2,.func (.func 265) #[] #[],.func (.func 266) #[] #[]] w (Qmu R l w):=by
 have hln:l.length=n2:=by have:=hs2.len;rw[Zw] at this;omega
 have HS1:=Hm hs1;have HS2:=Hm hs2;have HG:=Hm hg;have HA:=Hm hR;have HBL:=Hm hbl;have HLN:=Hm hln;have HPL:=Hm hpl;obtain⟨A1,c1,rfl,-,hq3,hq4,hq5,hq6⟩:=hs1;unfold maxLen at hq4;have HQ6:=Hm hq6;clear hq6;have HN1:Hd ((U.hvs R).length=n1):=⟨by have:=HS1.o.len;rw[QI] at this;omega⟩;have HST:=Hm (PlI.start hw);obtain⟨A2,c2,rfl,-⟩:=hs2;clear hR hbl hg hw hpl;go_enter func264,ntmps264
 go_wp2_with fail
 go_loopw [10,11,17] (fun out av iv wr=>∃ (k a:Nat) (P Q T:List Int),iv=.int .i64 (k:Int)∧av=.int .i64 (a:Int)∧(U.hvs P).length=a∧wr.ownsRow w.heap.size 245 1 out (U.hvs T).length (Qt (U.hvs T))∧Below w.heap.size w wr∧PlI R 2 l k P Q T) (fun _ _ iv _=>n2-(intOf iv).toNat)
 case atStart=>exact⟨0,0,[],R,[],rfl,rfl,rfl,World.ownsRow_nil _ _ _ _,Wac _ _,HST.o⟩
 case round =>
  obtain⟨k,a,P,Q,T,rfl,rfl,hap,hown,hbel,hI⟩:=hrel;have HB:=Hm hbel;have HOW:=Hm hown;have HI:=Hm hI;obtain⟨Ao,co,rfl⟩:=Qm hown;have hsz:=hbel.size;have hkle:k≤n2:=by have:=hI.k_le;have:=HLN.o;omega
  have hRP:R=P++Q:=hI.eq;have hallP:U.AllR P:=(Zd (hRP ▸ HA.o)).1;have hofP:(cnt P).of 2=(a:Int):=by rw[n_H hallP,hap]
  have haR:a≤n1:=by
   have h1:=HN1.o;have h2:Qt (U.hvs R)=Qt (U.hvs P)++Qt (U.hvs Q):=by rw[hRP,ZT]
   have h3:=congrArg List.length h2;rw[Wad,QI,QI,QI] at h3;omega
  have hn1:n1≤40000:=by
   have h1:=n_H HA.o;have h2:=of_le (rs:=R) (n:=bl R) (QB R) 2
   have:=HBL.o
   have:=HN1.o
   omega
  by_cases hkn:k<n2
  ·have hkl:k<l.length:=by have:=HLN.o;omega
   obtain⟨b0,o0,c0,hv,hlt,y0,y1,y2⟩:=(HS2.o.below hbel).part hkn hkl
   cases hv
   have hgk:=HG.o _ (Wau hkl);obtain⟨rs,hsp⟩:=hgk.2;have hput:l[k].put=U.encs rs:=by have:=hsp.eq;rwa [Wam] at this
   have hal:=hsp.all
   have hrsl:bl rs≤100000:=by
    have h1:=Y2 (Wau hkl);have h2:=HPL.o;have h3:(U.encs rs).length=bl rs:=rfl;rw[hput] at h1;omega
   have HRS:=Hm (Wao hal hrsl)
   have hTl:bl T≤108000:=by
    have h1:=hI.siz;have h2:=HPL.o;have h3:=HBL.o;have h4:bl P≤bl R:=by rw[hRP,bl_append];omega
    omega
   have hTn:(U.hvs T).length≤432000:=by
    have h2:=QB T;have h3:=U.hvs_len_le T;omega
   have HTN:=Hm hTn;obtain⟨x,hx⟩:∃ x:Nat,(x:Int)=l[k].keep+l[k].drop:=⟨(l[k].keep+l[k].drop).toNat,by have:=hgk.1.2;omega⟩
   have hxr:a+x≤n1:=by
    have h1:=hI.rest;rw[ZW hkl,was] at h1;have h2:=ZJ fun p hp=>(HG.o p (List.mem_of_mem_drop (i:=k+1) hp)).1
    have h3:(cnt R).of 2=(cnt P).of 2+(cnt Q).of 2:=by rw[hRP,Qp]
    have h4:=n_H HA.o;have h5:=HN1.o;omega
   have HBADP:Hd (Ya R a=false):=⟨(Qb7 HA.o (by have:=HN1.o;omega)).2 ⟨P,Q,hRP,hofP⟩⟩
   have HSTOP:Hd (Ya R (a+x)=true→(tnF R 2 1 Cn.zero 0 l).2=10):=⟨fun hb=>HI.o.stop (by decide) HG.o hkl (fun d q e e2=>by
    have:Ya R (a+x)=false:=(Qb7 HA.o (by have:=HN1.o;omega)).2 ⟨P++d,q,by rw[HI.o.eq,e,Wah],by rw[Qp,hofP,e2];omega⟩
    rw[this] at hb;cases hb)⟩
   have HGO:Hd (Ya R (a+x)=false→∃ d q,R=P++(d++q)∧(cnt d).of 2=x∧PlI R 2 l (k+1) (P++d) q (T++(kept l[k] d++rs))):=⟨fun hb=>by
    obtain⟨p,q,e1,e2⟩:=(Qb7 HA.o (by have:=HN1.o;omega)).1 hb;obtain⟨d,q',rfl,-,e4⟩:=XN (u:=2) (a:=(a:Int)) (n:=(x:Int)) (P:=P) (Q:=Q) (c:=cnt p) hofP (by omega) (by decide) ⟨p,q,by rw[← hRP];exact e1,by rw[e2];omega,rfl⟩
    exact⟨d,q',hRP,e4,HI.o.step (by decide) HG.o hkl (by rw[e4,hx]) hput hal⟩⟩
   have harg:=hgk.1;have HAP:=Hm hap;clear hown hbel hI HI hRP hallP hofP hgk hsp hal hrsl hTl hTn hap;generalize l[k]=p at *;rcases harg.cases with ⟨b,hb,rfl⟩ | ⟨d9,hd9,rfl⟩ | ⟨d9,hd9,rfl⟩
   ·subst hput;obtain rfl:x=0:=by dsimp only at hx;omega
    dsimp only at y0 y1 y2 hx;have HPB:Hd (PlS_H w wr.heap.size 0 0 ⟨(U.encs rs).toArray⟩ (wr.alloc (.cells #[.int .i64 0,.int .i64 0,.string ⟨(U.encs rs).toArray⟩] 117))):=⟨⟨Qb HB.o _,Blk.new _ _ _⟩⟩;have HOWB:=Hm (HOW.o.alloc (.cells #[.int .i64 0,.int .i64 0,.string ⟨(U.encs rs).toArray⟩] 117));have HOB:Hd ((Value.slice Ao (U.hvs T).length co).ownBlock≠some wr.heap.size):=⟨fun e=>by have:=(HOW.o.lt _ e).2;omega⟩;have hbad:Ya R (a+0)=false:=HBADP.o;obtain⟨d,q,HRE,HDX,HNX⟩:=HGO.o hbad;have HNEXT:Hd ((U.hvs (P++d)).length=a∧PlI R 2 l (k+1) (P++d) q (T++rs)):=⟨Qb8 HA.o HRE HAP.o HDX,by have h:=HNX;unfold kept at h;rw[if_neg (by dsimp only;omega)] at h;exact h⟩;clear HRE HDX HNX hbad harg;have hw1:IntKind.i64.wrap ((a:Int)+0)=(a:Int):=by rw[Waw]<;>omega
    have hac:(a:Int)≤(c1:Int):=by omega
    have hw2:IntKind.i64.wrap (a:Int)=(a:Int):=by rw[Waw]<;>omega
    go_wp2_with (go_at_call 266;refine (YT (HS1.o.below (Qb HB.o _)) HA.o (by omega) haR).mono ?_;rintro e w5 ⟨rfl,rfl⟩;rw[HBADP.o])
    generalize wr.alloc (.cells #[.int .i64 0,.int .i64 0,.string ⟨(U.encs rs).toArray⟩] 117)=wb at HPB HOWB ⊢;generalize wr.heap.size=bx at HPB HOB ⊢;have hx0:=HPB.o.drew.x;have HPUT:=Hm (fun W=>Qc8 HRS.o.1 W (by have:=HRS.o.2;omega))
    have HB63:Hd ((U.hvs T).length+(U.hvs rs).length≤maxLen∧((U.hvs T).length+(U.hvs rs).length)*2≤140737488355328):=⟨by
     have h1:=HTN.o;have h2:(U.hvs rs).length≤400000:=by have h3:=QB rs;have h4:=HRS.o.2;have h5:=U.hvs_len_le rs;omega
     unfold maxLen;omega⟩
    clear y0 y1 y2 hlt;have ha0:(0:Int)≤(a:Int):=by omega
    rcases A1 with _ | ⟨b1,o1,p1⟩
    ·clear hq5
     go_region_held3 (fun w'=>XI w bx 0 0 ⟨(U.encs rs).toArray⟩ w')
      (first | exact HPB.o.drew.x | exact (PlS_H.call (And.left (by assumption)) (by assumption)).x | exact (PlS_H.app (And.left (by assumption)) (by assumption) (by assumption) HOB.o).x | assumption)
      (first
       | (refine Z6 YS (by first | exact HOWB.o.drew | exact own_below HOWB.o.drew (by assumption)) rfl rfl rfl rfl ?_)
       | (refine ZL YS (Qt (U.hvs rs)) v8 (by first | exact HOWB.o.drew | exact own_below HOWB.o.drew (by assumption)) hs8 rfl rfl rfl rfl (JY rs) HB63.o.1 HB63.o.2 (PlS_H.below (And.left (by assumption))).size ?_;intro v9 w9 hown9 hbel9 hgr9 hnew9)
       | (go_at_call 265;refine (HPUT.o _).mono ?_;rintro e w8 ⟨hb8,v8,rfl,hs8⟩)
      )
     all_goals
      have HO9:=Hm hown9;have HB9:=Hm ((HPB.o.drew.call hb8).below.trans hbel9);clear hown9 hbel9 hgr9 hnew9 hb8 hs8;go_wp2_with fail
      exact⟨⟨k+1,_,P++d,q,T++rs,by go_num,rfl,HNEXT.o.1,by rw[ZT];have h:=HO9.o;rwa [show (U.hvs T).length+(U.hvs rs).length=(U.hvs (T++rs)).length by rw[← QI,← QI,← QI,ZT,Wad]] at h,HB9.o,HNEXT.o.2⟩,by simp only[intOf];omega⟩
    ·by_cases hca:c1=a
     ·subst hca
      go_region_held3 (fun w'=>XI w bx 0 0 ⟨(U.encs rs).toArray⟩ w')
       (first | exact HPB.o.drew.x | exact (PlS_H.call (And.left (by assumption)) (by assumption)).x | exact (PlS_H.app (And.left (by assumption)) (by assumption) (by assumption) HOB.o).x | assumption)
       (first
        | (refine Z6 YS (by first | exact HOWB.o.drew | exact own_below HOWB.o.drew (by assumption)) rfl rfl rfl rfl ?_)
        | (refine ZL YS (Qt (U.hvs rs)) v8 (by first | exact HOWB.o.drew | exact own_below HOWB.o.drew (by assumption)) hs8 rfl rfl rfl rfl (JY rs) HB63.o.1 HB63.o.2 (PlS_H.below (And.left (by assumption))).size ?_;intro v9 w9 hown9 hbel9 hgr9 hnew9)
        | (go_at_call 265;refine (HPUT.o _).mono ?_;rintro e w8 ⟨hb8,v8,rfl,hs8⟩)
       )
      all_goals
       have HO9:=Hm hown9;have HB9:=Hm ((HPB.o.drew.call hb8).below.trans hbel9);clear hown9 hbel9 hgr9 hnew9 hb8 hs8;go_wp2_with fail
       exact⟨⟨k+1,_,P++d,q,T++rs,by go_num,rfl,HNEXT.o.1,by rw[ZT];have h:=HO9.o;rwa [show (U.hvs T).length+(U.hvs rs).length=(U.hvs (T++rs)).length by rw[← QI,← QI,← QI,ZT,Wad]] at h,HB9.o,HNEXT.o.2⟩,by simp only[intOf];omega⟩
     ·skip
      go_region_held3 (fun w'=>XI w bx 0 0 ⟨(U.encs rs).toArray⟩ w')
       (first | exact HPB.o.drew.x | exact (PlS_H.call (And.left (by assumption)) (by assumption)).x | exact (PlS_H.app (And.left (by assumption)) (by assumption) (by assumption) HOB.o).x | assumption)
       (first
        | (refine Z6 YS (by first | exact HOWB.o.drew | exact own_below HOWB.o.drew (by assumption)) rfl rfl rfl rfl ?_)
        | (refine ZL YS (Qt (U.hvs rs)) v8 (by first | exact HOWB.o.drew | exact own_below HOWB.o.drew (by assumption)) hs8 rfl rfl rfl rfl (JY rs) HB63.o.1 HB63.o.2 (PlS_H.below (And.left (by assumption))).size ?_;intro v9 w9 hown9 hbel9 hgr9 hnew9)
        | (go_at_call 265;refine (HPUT.o _).mono ?_;rintro e w8 ⟨hb8,v8,rfl,hs8⟩)
       )
      all_goals
       have HO9:=Hm hown9;have HB9:=Hm ((HPB.o.drew.call hb8).below.trans hbel9);clear hown9 hbel9 hgr9 hnew9 hb8 hs8;go_wp2_with fail
       exact⟨⟨k+1,_,P++d,q,T++rs,by go_num,rfl,HNEXT.o.1,by rw[ZT];have h:=HO9.o;rwa [show (U.hvs T).length+(U.hvs rs).length=(U.hvs (T++rs)).length by rw[← QI,← QI,← QI,ZT,Wad]] at h,HB9.o,HNEXT.o.2⟩,by simp only[intOf];omega⟩
   ·have hrs0:rs=[]:=by
     by_cases e:rs=[]
     ·exact e
     ·exact absurd hput.symm (ZZ e)
    subst hrs0;obtain rfl:x=d9:=by dsimp only at hx;omega
    clear hput;dsimp only at y0 y1 y2 hx;have HPB:Hd (PlS_H w wr.heap.size 0 (x:Int) ⟨#[]⟩ (wr.alloc (.cells #[.int .i64 0,.int .i64 (x:Int),.string ⟨#[]⟩] 117))):=⟨⟨Qb HB.o _,Blk.new _ _ _⟩⟩;have HOWB:=Hm (HOW.o.alloc (.cells #[.int .i64 0,.int .i64 (x:Int),.string ⟨#[]⟩] 117));have HOB:Hd ((Value.slice Ao (U.hvs T).length co).ownBlock≠some wr.heap.size):=⟨fun e=>by have:=(HOW.o.lt _ e).2;omega⟩;clear hx;have hn0:0<n1:=by omega
    obtain⟨b1,o1,rfl⟩:=HS1.o.addr1 hn0;have hw1:IntKind.i64.wrap ((a:Int)+(x:Int))=(a:Int)+(x:Int):=by rw[Waw]<;>omega
    have hw2:IntKind.i64.wrap (a:Int)=(a:Int):=by rw[Waw]<;>omega
    have hw3:IntKind.i64.wrap ((a:Int)+0)=(a:Int):=by rw[Waw]<;>omega
    have hac:(a:Int)≤(c1:Int):=by omega
    have ha0:(0:Int)≤(a:Int):=by omega
    have hca:¬ c1=a:=by omega
    have hxa:((a:Int)+(x:Int))=((a+x:Nat):Int):=by omega
    have HXA:=Hm hxa;clear hxa
    by_cases hbad:Ya R (a+x)=true
    ·have HE:=Hm (HSTOP.o hbad);have HBT:=Hm hbad;clear hbad harg
     go_wp2_with (first
      | (go_at_call_of 266 (Value.int .i64 (a:Int));refine (YT (HS1.o.below (Qb HB.o _)) HA.o (by omega) haR).mono ?_;rintro e w5 ⟨rfl,rfl⟩;rw[HBADP.o])
      | (go_at_call 266;rw[HXA.o];refine (YT (HS1.o.below (Qb HB.o _)) HA.o (by omega) hxr).mono ?_;rintro e w5 ⟨rfl,rfl⟩;rw[HBT.o]))
     go_ret2
     exact⟨Qb HB.o _,.inr ⟨HE.o,rfl⟩⟩
    ·have hbad:Ya R (a+x)=false:=by simpa using hbad
     have HBF:=Hm hbad;obtain⟨d,q,HRE,HDX,HNX⟩:=HGO.o hbad;have HNEXT:Hd ((U.hvs (P++d)).length=a+x∧PlI R 2 l (k+1) (P++d) q T):=⟨Qb8 HA.o HRE HAP.o HDX,by have h:=HNX;unfold kept at h;rw[if_neg (by dsimp only;omega),Wam,Wam] at h;exact h⟩;clear HRE HDX HNX hbad harg
     go_wp2_with (first
      | (go_at_call_of 266 (Value.int .i64 (a:Int));refine (YT (HS1.o.below (Qb HB.o _)) HA.o (by omega) haR).mono ?_;rintro e w5 ⟨rfl,rfl⟩;rw[HBADP.o])
      | (go_at_call 266;rw[HXA.o];refine (YT (HS1.o.below (Qb HB.o _)) HA.o (by omega) hxr).mono ?_;rintro e w5 ⟨rfl,rfl⟩;rw[HBF.o]))
     generalize wr.alloc (.cells #[.int .i64 0,.int .i64 (x:Int),.string ⟨#[]⟩] 117)=wb at HPB HOWB ⊢;generalize wr.heap.size=bx at HPB HOB ⊢;have hx0:=HPB.o.drew.x
     have HPUT:Hd (∀ W,Calls prog 265 #[.string ⟨#[]⟩] W fun e w'=>Below W.heap.size W w'∧∃ A c,e=.returned (.slice A 0 c)):=⟨fun W=>by
      refine (Qc8 (rs:=[]) (fun r hr=>by cases hr) W (by decide)).mono ?_;rintro e w' ⟨hb,v,rfl,A,c,rfl,-⟩
      exact⟨hb,A,c,rfl⟩⟩
     clear y0 y1 y2 hlt;have hax:(a:Int)+(x:Int)≤(c1:Int):=by omega
     have hax0:(0:Int)≤(a:Int)+(x:Int):=by omega
     have haxn:((a:Int)+(x:Int)).toNat=a+x:=by omega
     go_region_held3 (fun w'=>XI w bx 0 (x:Int) ⟨#[]⟩ w')
      (first | exact HPB.o.drew.x | exact (PlS_H.call (And.left (by assumption)) (by assumption)).x | exact (PlS_H.app (And.left (by assumption)) (by assumption) (by assumption) HOB.o).x | assumption)
      (first
       | (refine Z6 YS (by first | exact HOWB.o.drew | exact own_below HOWB.o.drew (by assumption)) rfl rfl rfl rfl ?_)
       | (go_at_call 265;refine (HPUT.o _).mono ?_;rintro e w8 ⟨hb8,A8,c8,rfl⟩)
      )
     all_goals
      have HO9:=Hm (own_below HOWB.o.drew hb8);have HB9:=Hm (HPB.o.drew.call hb8).below;clear hb8;go_wp2_with fail
      exact⟨⟨k+1,a+x,P++d,q,T,by go_num,by go_num,HNEXT.o.1,HO9.o,HB9.o,HNEXT.o.2⟩,by simp only[intOf];omega⟩
   ·have hrs0:rs=[]:=by
     by_cases e:rs=[]
     ·exact e
     ·exact absurd hput.symm (ZZ e)
    subst hrs0;obtain rfl:x=d9:=by dsimp only at hx;omega
    clear hput;dsimp only at y0 y1 y2 hx;have HPB:Hd (PlS_H w wr.heap.size (x:Int) 0 ⟨#[]⟩ (wr.alloc (.cells #[.int .i64 (x:Int),.int .i64 0,.string ⟨#[]⟩] 117))):=⟨⟨Qb HB.o _,Blk.new _ _ _⟩⟩;have HOWB:=Hm (HOW.o.alloc (.cells #[.int .i64 (x:Int),.int .i64 0,.string ⟨#[]⟩] 117));have HOB:Hd ((Value.slice Ao (U.hvs T).length co).ownBlock≠some wr.heap.size):=⟨fun e=>by have:=(HOW.o.lt _ e).2;omega⟩;clear hx;have hn0:0<n1:=by omega
    obtain⟨b1,o1,rfl⟩:=HS1.o.addr1 hn0;have hw1:IntKind.i64.wrap ((a:Int)+(x:Int))=(a:Int)+(x:Int):=by rw[Waw]<;>omega
    have hw2:IntKind.i64.wrap (a:Int)=(a:Int):=by rw[Waw]<;>omega
    have hw3:IntKind.i64.wrap ((a:Int)+0)=(a:Int):=by rw[Waw]<;>omega
    have hac:(a:Int)≤(c1:Int):=by omega
    have ha0:(0:Int)≤(a:Int):=by omega
    have hca:¬ c1=a:=by omega
    have hxa:((a:Int)+(x:Int))=((a+x:Nat):Int):=by omega
    have HXA:=Hm hxa;clear hxa
    by_cases hbad:Ya R (a+x)=true
    ·have HE:=Hm (HSTOP.o hbad);have HBT:=Hm hbad;clear hbad harg
     go_wp2_with (first
      | (go_at_call_of 266 (Value.int .i64 (a:Int));refine (YT (HS1.o.below (Qb HB.o _)) HA.o (by omega) haR).mono ?_;rintro e w5 ⟨rfl,rfl⟩;rw[HBADP.o])
      | (go_at_call 266;rw[HXA.o];refine (YT (HS1.o.below (Qb HB.o _)) HA.o (by omega) hxr).mono ?_;rintro e w5 ⟨rfl,rfl⟩;rw[HBT.o]))
     go_ret2
     exact⟨Qb HB.o _,.inr ⟨HE.o,rfl⟩⟩
    ·have hbad:Ya R (a+x)=false:=by simpa using hbad
     have HBF:=Hm hbad;obtain⟨d,q,HRE,HDX,HNX⟩:=HGO.o hbad;have HNEXT:Hd ((U.hvs (P++d)).length=a+x∧PlI R 2 l (k+1) (P++d) q (T++d)):=⟨Qb8 HA.o HRE HAP.o HDX,by have h:=HNX;unfold kept at h;rw[if_pos (by dsimp only;omega),Wam] at h;exact h⟩;have HND:Hd ((U.hvs d).length=x):=⟨nd_H HA.o HRE HDX⟩
     have HSEG:Hd (∀ W,Below w.heap.size w W→Sl W 1 (.slice (some ⟨b1,o1+a,none⟩) x (c1-a)) x (Qt (U.hvs d))):=⟨fun W hb=>by
      have h:=(Qmv (HS1.o.below hb) HRE HAP.o).1
      rwa [HND.o] at h⟩
     have HB63:Hd ((U.hvs T).length+x≤maxLen∧((U.hvs T).length+x)*2≤140737488355328):=⟨by
      have h1:=HTN.o;have h2:x≤400000:=by omega
      unfold maxLen;omega⟩
     clear HRE HDX HNX hbad harg
     go_wp2_with (first
      | (go_at_call_of 266 (Value.int .i64 (a:Int));refine (YT (HS1.o.below (Qb HB.o _)) HA.o (by omega) haR).mono ?_;rintro e w5 ⟨rfl,rfl⟩;rw[HBADP.o])
      | (go_at_call 266;rw[HXA.o];refine (YT (HS1.o.below (Qb HB.o _)) HA.o (by omega) hxr).mono ?_;rintro e w5 ⟨rfl,rfl⟩;rw[HBF.o]))
     generalize wr.alloc (.cells #[.int .i64 (x:Int),.int .i64 0,.string ⟨#[]⟩] 117)=wb at HPB HOWB ⊢;generalize wr.heap.size=bx at HPB HOB ⊢;have hx0:=HPB.o.drew.x
     have HPUT:Hd (∀ W,Calls prog 265 #[.string ⟨#[]⟩] W fun e w'=>Below W.heap.size W w'∧∃ A c,e=.returned (.slice A 0 c)):=⟨fun W=>by
      refine (Qc8 (rs:=[]) (fun r hr=>by cases hr) W (by decide)).mono ?_;rintro e w' ⟨hb,v,rfl,A,c,rfl,-⟩
      exact⟨hb,A,c,rfl⟩⟩
     clear y0 y1 y2 hlt;have hax:(a:Int)+(x:Int)≤(c1:Int):=by omega
     have hax0:(0:Int)≤(a:Int)+(x:Int):=by omega
     have haxn:((a:Int)+(x:Int)).toNat=a+x:=by omega
     go_region_held3 (fun w'=>XI w bx (x:Int) 0 ⟨#[]⟩ w')
      (first | exact HPB.o.drew.x | exact (PlS_H.call (And.left (by assumption)) (by assumption)).x | exact (PlS_H.app (And.left (by assumption)) (by assumption) (by assumption) HOB.o).x | assumption)
      (first
       | (refine ZL YS (Qt (U.hvs d)) (.slice (some ⟨b1,o1+a,none⟩) x (c1-a)) (by first | exact HOWB.o.drew | exact own_below HOWB.o.drew (by assumption)) (HSEG.o _ (PlS_H.below (And.left (by assumption)))) rfl rfl rfl rfl (JY d) HB63.o.1 HB63.o.2 (PlS_H.below (And.left (by assumption))).size ?_;intro v9 w9 hown9 hbel9 hgr9 hnew9)
       | (refine Z6 YS (by first | exact hown9 | exact own_below hown9 (by assumption)) rfl rfl rfl rfl ?_)
       | (go_at_call 265;refine (HPUT.o _).mono ?_;rintro e w8 ⟨hb8,A8,c8,rfl⟩)
      )
     all_goals
      have HO9:Hd (w8.ownsRow w.heap.size 245 1 v9 ((U.hvs T).length+x) (Qt (U.hvs T)++Qt (U.hvs d))∨w9.ownsRow w.heap.size 245 1 v9 ((U.hvs T).length+x) (Qt (U.hvs T)++Qt (U.hvs d))):=⟨.inr hown9⟩
      first
      | (have HB9:=Hm ((HPB.o.drew.call hb8).below.trans hbel9);have HO8:=Hm hown9;clear hb8 hown9 hbel9 hgr9 hnew9 HO9;go_wp2_with fail;exact⟨⟨k+1,a+x,P++d,q,T++d,by go_num,by go_num,HNEXT.o.1,by rw[ZT];have h:=HO8.o;rwa [show (U.hvs T).length+x=(U.hvs (T++d)).length by rw[← HND.o,← QI,← QI,← QI,ZT,Wad]] at h,HB9.o,HNEXT.o.2⟩,by simp only[intOf];omega⟩)
      | (have HB9:=Hm (Qa (HPB.o.drew.below.trans hbel9) hb8);have HO8:=Hm (own_below hown9 hb8);clear hb8 hown9 hbel9 hgr9 hnew9 HO9;go_wp2_with fail;exact⟨⟨k+1,a+x,P++d,q,T++d,by go_num,by go_num,HNEXT.o.1,by rw[ZT];have h:=HO8.o;rwa [show (U.hvs T).length+x=(U.hvs (T++d)).length by rw[← HND.o,← QI,← QI,← QI,ZT,Wad]] at h,HB9.o,HNEXT.o.2⟩,by simp only[intOf];omega⟩)
  ·obtain rfl:k=n2:=by omega
   obtain⟨f1,X,f2,f3⟩:=hI.finish (by decide) HLN.o.symm;subst f3;have HF:=Hm (Wao f1 f2);have HS9:=Hm (Sl.of_own hown);have HF9:=Hm (Frs.of_own hown);clear hown hbel hI f1 f2 hRP hallP hofP hap;go_wp2_with (go_at_call 298;refine (Qmt HS9.o).mono ?_;rintro e w9 ⟨⟨v9,rfl,hs9,hf9⟩,rfl⟩;have HS10:=Hm hs9;have HF10:=Hm (hf9 _ HF9.o);clear hs9 hf9)
   go_ret2
   exact⟨HB.o,.inl ⟨_,X,HF.o.1,HF.o.2,rfl,HS10.o,HF10.o⟩⟩
end
end
section
open Go.RowKit
theorem Qkz {R:List Int}{l:List PT}{v2:Value}{n2 f:Nat}{w:World}(hs:ShS w f 2 R)(hg:Hdl w)(hs2:Sl w 3 v2 n2 (opv l))(hpl:Qd l≤100000)(hn:n2≤100000)(hc:chk l ((cnt R).of 2)=0) :
  Calls prog 210 #[.pointer (some ⟨f,0,none⟩),v2] w (Js f 2 R l w):=by
 have HLN:=Hm (Qac hs);have HALL:=Hm hs.all;have HSZ:=Hm hs.sz;obtain⟨t,vh,vr,hk,hv⟩:=hs.ex;obtain⟨rfl,hsl,rfl⟩:=hv.k2 rfl;obtain⟨A,c,rfl⟩:∃ A c,vh=.slice A (U.hvs R).length c:=(by obtain⟨A,c,e,-⟩:=hsl;exact⟨A,c,e⟩);have HS1:=Hm hsl;have HK:=Hm hk;have HS2:=Hm hs2;have HG:=Hm hg;have HP:Hd (∀ p∈l,p.put.length≤35184372087808):=⟨fun p hp=>by have:=Y2 hp;omega⟩;have HC:=Hm hc;obtain⟨hgd,hw⟩:=J4 hc;have HGD:=Hm hgd;have HW:=Hm hw;have HPL:=Hm hpl;have HN:=Hm hn;obtain⟨A2,c2,rfl,-⟩:=hs2;have h0:=QJ R 2;have h1:=of_le (rs:=R) (n:=bl R) (QB R) 2;have h2:=hs.sz;have HM:Hd (-9223372036854775808≤(cnt R).of 2∧(cnt R).of 2≤9223372036854775807):=⟨by omega⟩
 by_cases hk0:(tnF R 2 1 Cn.zero 0 l).2=0
 ·have HK0:=Hm hk0;have HBND:Hd (comes (tnF R 2 1 Cn.zero 0 l).1≤200000):=⟨by have:=Qcz (by decide) hgd hw hk0;omega⟩
  by_cases hov:8000<comes (tnF R 2 1 Cn.zero 0 l).1
  ·have HOV:=Hm hov;clear hs hg hc h0 h1 h2 hsl hk hgd hw hpl hn hv hk0 hov;go_enter func210,ntmps210
   go_wp2_with (first
    | (go_at_call 263;refine HLN.o.mono ?_;rintro e w1 ⟨rfl,hb1⟩;have HB1:=Hm hb1;clear hb1)
    | (go_at_call 262;refine (Zv (HG.o.below HB1.o) (HS2.o.below HB1.o) HP.o HM.o).mono ?_;rintro e w2 ⟨⟨ev,rfl,-,hev⟩,hb2⟩;rw[HC.o] at hev;rw[show Q4 0=Value.nilIface from rfl] at hev;obtain rfl:=hev;have hx2:=Qa HB1.o hb2;have HB2:=Hm hx2;have hk2:=HK.o.below hx2 HK.o.lt;have HK2:=Hm hk2;obtain⟨z0,z1,z2,z3⟩:=Qk hk2;have zf:=hk2.frozen;have zl:=hk2.lt;clear hb2 hx2 hk2)
    | (go_at_call 264;refine (Qb9 HALL.o HSZ.o (HS1.o.below (Qb HB2.o _)) (HS2.o.below (Qb HB2.o _)) HGD.o HW.o HPL.o HN.o).mono ?_;rintro e w3 ⟨hb3,hpost⟩;obtain⟨v,X,-,hX,rfl,hslv,hfr⟩:=hpost.resolve_right (fun h=>by have:=h.1;rw[HK0.o] at this;cases this);obtain⟨A3,c3,rfl⟩:∃ A3 c3,v=.slice A3 (U.hvs (rap X R)).length c3:=(by obtain⟨A,c,e,-⟩:=hslv;exact⟨A,c,e⟩);have HSLV:=Hm hslv;have HFR:=Hm hfr;have HX:=Hm hX;have HB3:=Hm hb3;have hn3:=(Blk.new w2 275 #[.int .i64 2,.string ⟨#[]⟩,.slice none 0 0,.slice none 0 0]).below hb3 (by simp);have HN3:=Hm hn3;obtain⟨y0,y1,y2,y3⟩:=Qk hn3;have yf:=hn3.frozen;have yl:=hn3.lt;have hx3:Below w2.heap.size w2 w3:=Qa (Qb (Wac _ w2) _) hb3;have HX3:=Hm hx3;clear z0 z1 z2 z3 zf zl;have hcm:=hX.sizes.2;have hlen:(U.encs (rap X R)).length=bl (rap X R):=rfl;have hi:(8000:Int)<((U.encs (rap X R)).length:Int):=(by have:=HOV.o;omega);clear hb3 hpost hX hslv hfr hn3 hx3 hcm hlen)
    | (go_at_call 205;refine (X7 (u:=2) (R:=rap X R) (t:=[]) (vh:=.slice A3 (U.hvs (rap X R)).length c3) (vr:=.slice none 0 0) (QW HX.o.allP HALL.o) (by decide) (by have h1:=HX.o.sizes.2;have h2:=HBND.o;omega) (HN3.o.set_ 2 (.slice A3 (U.hvs (rap X R)).length c3)) ⟨fun h=>by omega,fun _=>⟨rfl,HSLV.o.frs (S:=fun k=>k=w2.heap.size) HFR.o ((Only.refl (fun k=>k=w2.heap.size) w3).setCell (p:=⟨w2.heap.size,2,none⟩) (.inl rfl) (.slice A3 (U.hvs (rap X R)).length c3)) (fun k e=>by subst e;simp),rfl⟩,fun h=>by omega⟩).mono ?_;rintro e w5 ⟨rfl,hb5⟩;have hn5:=(HN3.o.set_ 2 (.slice A3 (U.hvs (rap X R)).length c3)).below hb5 (by simp;exact yl);have ho5:Only (fun _=>False) w w5:=((Only.of_below (Qa HB2.o HX3.o):Only (fun _=>False) w w3).setCell (p:=⟨w2.heap.size,2,none⟩) (.inr HB2.o.size) (.slice A3 (U.hvs (rap X R)).length c3)).then_below hb5;have HO5:=Hm ho5;have HV5:Hd (ShV w5 2 (rap X R) _ _ _):=⟨ShV.below (⟨fun h=>by omega,fun _=>⟨rfl,HSLV.o.frs (S:=fun k=>k=w2.heap.size) HFR.o ((Only.refl (fun k=>k=w2.heap.size) w3).setCell (p:=⟨w2.heap.size,2,none⟩) (.inl rfl) (.slice A3 (U.hvs (rap X R)).length c3)) (fun k e=>by subst e;simp),rfl⟩,fun h=>by omega⟩:ShV _ 2 (rap X R) ([]) (.slice A3 (U.hvs (rap X R)).length c3) (.slice none 0 0)) hb5⟩;have hk5:=HK.o.only ho5 (fun h=>h);have HK5:=Hm hk5;clear y0 y1 y2 y3 yf yl;obtain⟨y0,y1,y2,y3⟩:=Qk hn5;have yf:=hn5.frozen;have yl:=hn5.lt;obtain⟨z0,z1,z2,z3⟩:=Qk hk5;have zf:=hk5.frozen;have zl:=hk5.lt;clear hb5 hn5 ho5 hk5))
   go_ret
   exact⟨HO5.o.mono (fun _ _ h=>h.elim),fun h=>absurd HC.o h,fun _=>.inr ⟨HK0.o,X,HX.o,.inl ⟨by have:=HX.o.sizes.2;have:=HOV.o;omega,rfl,HO5.o.below (Wak _) (fun _ _ h=>h)⟩⟩⟩
  ·have HOV:=Hm hov;clear hs hg hc h0 h1 h2 hsl hk hgd hw hpl hn hv hk0 hov;go_enter func210,ntmps210
   go_wp2_with (first
    | (go_at_call 263;refine HLN.o.mono ?_;rintro e w1 ⟨rfl,hb1⟩;have HB1:=Hm hb1;clear hb1)
    | (go_at_call 262;refine (Zv (HG.o.below HB1.o) (HS2.o.below HB1.o) HP.o HM.o).mono ?_;rintro e w2 ⟨⟨ev,rfl,-,hev⟩,hb2⟩;rw[HC.o] at hev;rw[show Q4 0=Value.nilIface from rfl] at hev;obtain rfl:=hev;have hx2:=Qa HB1.o hb2;have HB2:=Hm hx2;have hk2:=HK.o.below hx2 HK.o.lt;have HK2:=Hm hk2;obtain⟨z0,z1,z2,z3⟩:=Qk hk2;have zf:=hk2.frozen;have zl:=hk2.lt;clear hb2 hx2 hk2)
    | (go_at_call 264;refine (Qb9 HALL.o HSZ.o (HS1.o.below (Qb HB2.o _)) (HS2.o.below (Qb HB2.o _)) HGD.o HW.o HPL.o HN.o).mono ?_;rintro e w3 ⟨hb3,hpost⟩;obtain⟨v,X,-,hX,rfl,hslv,hfr⟩:=hpost.resolve_right (fun h=>by have:=h.1;rw[HK0.o] at this;cases this);obtain⟨A3,c3,rfl⟩:∃ A3 c3,v=.slice A3 (U.hvs (rap X R)).length c3:=(by obtain⟨A,c,e,-⟩:=hslv;exact⟨A,c,e⟩);have HSLV:=Hm hslv;have HFR:=Hm hfr;have HX:=Hm hX;have HB3:=Hm hb3;have hn3:=(Blk.new w2 275 #[.int .i64 2,.string ⟨#[]⟩,.slice none 0 0,.slice none 0 0]).below hb3 (by simp);have HN3:=Hm hn3;obtain⟨y0,y1,y2,y3⟩:=Qk hn3;have yf:=hn3.frozen;have yl:=hn3.lt;have hx3:Below w2.heap.size w2 w3:=Qa (Qb (Wac _ w2) _) hb3;have HX3:=Hm hx3;clear z0 z1 z2 z3 zf zl;have hcm:=hX.sizes.2;have hlen:(U.encs (rap X R)).length=bl (rap X R):=rfl;have hi:¬ ((8000:Int)<((U.encs (rap X R)).length:Int)):=(by have:=HOV.o;omega);clear hb3 hpost hX hslv hfr hn3 hx3 hcm hlen)
    | (go_at_call 205;refine (X7 (u:=2) (R:=rap X R) (t:=[]) (vh:=.slice A3 (U.hvs (rap X R)).length c3) (vr:=.slice none 0 0) (QW HX.o.allP HALL.o) (by decide) (by have h1:=HX.o.sizes.2;have h2:=HBND.o;omega) (HN3.o.set_ 2 (.slice A3 (U.hvs (rap X R)).length c3)) ⟨fun h=>by omega,fun _=>⟨rfl,HSLV.o.frs (S:=fun k=>k=w2.heap.size) HFR.o ((Only.refl (fun k=>k=w2.heap.size) w3).setCell (p:=⟨w2.heap.size,2,none⟩) (.inl rfl) (.slice A3 (U.hvs (rap X R)).length c3)) (fun k e=>by subst e;simp),rfl⟩,fun h=>by omega⟩).mono ?_;rintro e w5 ⟨rfl,hb5⟩;have hn5:=(HN3.o.set_ 2 (.slice A3 (U.hvs (rap X R)).length c3)).below hb5 (by simp;exact yl);have ho5:Only (fun _=>False) w w5:=((Only.of_below (Qa HB2.o HX3.o):Only (fun _=>False) w w3).setCell (p:=⟨w2.heap.size,2,none⟩) (.inr HB2.o.size) (.slice A3 (U.hvs (rap X R)).length c3)).then_below hb5;have HO5:=Hm ho5;have HV5:Hd (ShV w5 2 (rap X R) _ _ _):=⟨ShV.below (⟨fun h=>by omega,fun _=>⟨rfl,HSLV.o.frs (S:=fun k=>k=w2.heap.size) HFR.o ((Only.refl (fun k=>k=w2.heap.size) w3).setCell (p:=⟨w2.heap.size,2,none⟩) (.inl rfl) (.slice A3 (U.hvs (rap X R)).length c3)) (fun k e=>by subst e;simp),rfl⟩,fun h=>by omega⟩:ShV _ 2 (rap X R) ([]) (.slice A3 (U.hvs (rap X R)).length c3) (.slice none 0 0)) hb5⟩;have hk5:=HK.o.only ho5 (fun h=>h);have HK5:=Hm hk5;clear y0 y1 y2 y3 yf yl;obtain⟨y0,y1,y2,y3⟩:=Qk hn5;have yf:=hn5.frozen;have yl:=hn5.lt;obtain⟨z0,z1,z2,z3⟩:=Qk hk5;have zf:=hk5.frozen;have zl:=hk5.lt;clear hb5 hn5 ho5 hk5))
   go_ret;have hcm:bl (rap X R)≤8000:=by have:=HX.o.sizes.2;have:=HOV.o;omega
   have hkf:=(((HK5.o.set_ 0 (.int .i64 2)).set_ 1 (.string ⟨#[]⟩)).set_ 2 (.slice A3 (U.hvs (rap X R)).length c3)).set_ 3 (.slice none 0 0);have hof:Only (fun k=>k=f) w5 _:=((((Only.refl (fun k=>k=f) w5).setCell (p:=⟨f,0,none⟩) (.inl rfl) (.int .i64 2)).setCell (p:=⟨f,1,none⟩) (.inl rfl) (.string ⟨#[]⟩)).setCell (p:=⟨f,2,none⟩) (.inl rfl) (.slice A3 (U.hvs (rap X R)).length c3)).setCell (p:=⟨f,3,none⟩) (.inl rfl) (.slice none 0 0)
   exact⟨(HO5.o.mono (fun _ _ h=>h.elim)).trans hof,fun h=>absurd HC.o h,fun _=>.inr ⟨HK0.o,X,HX.o,.inr ⟨hcm,rfl,QW HX.o.allP HALL.o,by decide,hcm,_,_,_,hkf,HV5.o.frs HFR.o (Frs.nil _) hof (fun k e=>by subst e;have:=HK2.o.lt;simp;omega),HFR.o.mono (by have:=HB2.o.size;simp;omega),Frs.nil _⟩⟩⟩
 ·have HK0:=Hm hk0;clear hs hg hc h0 h1 h2 hsl hk hgd hw hpl hn hv hk0;go_enter func210,ntmps210
  go_wp2_with (first
   | (go_at_call 263;refine HLN.o.mono ?_;rintro e w1 ⟨rfl,hb1⟩;have HB1:=Hm hb1;clear hb1)
   | (go_at_call 262;refine (Zv (HG.o.below HB1.o) (HS2.o.below HB1.o) HP.o HM.o).mono ?_;rintro e w2 ⟨⟨ev,rfl,-,hev⟩,hb2⟩;rw[HC.o] at hev;rw[show Q4 0=Value.nilIface from rfl] at hev;obtain rfl:=hev;have hx2:=Qa HB1.o hb2;have HB2:=Hm hx2;have hk2:=HK.o.below hx2 HK.o.lt;have HK2:=Hm hk2;obtain⟨z0,z1,z2,z3⟩:=Qk hk2;have zf:=hk2.frozen;have zl:=hk2.lt;clear hb2 hx2 hk2)
   | (go_at_call 264;refine (Qb9 HALL.o HSZ.o (HS1.o.below (Qb HB2.o _)) (HS2.o.below (Qb HB2.o _)) HGD.o HW.o HPL.o HN.o).mono ?_;rintro e w3 ⟨hb3,hpost⟩;obtain⟨ht10,rfl⟩:=hpost.resolve_left (fun h=>by obtain⟨v,X,h,-⟩:=h;exact HK0.o h);unfold errno;have hn3:=(Blk.new w2 275 #[.int .i64 2,.string ⟨#[]⟩,.slice none 0 0,.slice none 0 0]).below hb3 (by simp);have HN3:=Hm hn3;obtain⟨y0,y1,y2,y3⟩:=Qk hn3;have yf:=hn3.frozen;have yl:=hn3.lt;have hx3:Below w2.heap.size w2 w3:=Qa (Qb (Wac _ w2) _) hb3;have HX3:=Hm hx3;clear z0 z1 z2 z3 zf zl;have ho4:Only (fun _=>False) w _:=(Only.of_below (Qa HB2.o hx3):Only (fun _=>False) w w3).setCell (p:=⟨w2.heap.size,2,none⟩) (.inr HB2.o.size) (.slice none 0 0);have HO4:=Hm ho4;have HT10:=Hm ht10;clear hpost hb3 hn3 hx3 ho4 ht10))
  go_ret
  exact⟨HO4.o.mono (fun _ _ h=>h.elim),fun h=>absurd HC.o h,fun _=>.inl ⟨HT10.o,rfl,HO4.o.below (Wak _) (fun _ _ h=>h)⟩⟩
end
section
open Go.RowKit
theorem Xa:El prog 189 21 1 4:=El.mk' underlying189 (by kernel_rfl) (by decide)
theorem Qa5 (R:List Int):∀ v∈Qs R,v.oneCell'=true:=by
 intro v hv;unfold Qs at hv;obtain⟨x,-,rfl⟩:=List.mem_map.1 hv
 rfl
theorem ZX (a b:List Int):Qs (a++b)=Qs a++Qs b:=by unfold Qs;rw[Wbo]
theorem QL (R:List Int):(Qs R).length=R.length:=by unfold Qs;rw[Wbi]
theorem Qt7 {n:Nat}{v:Value}{xs:List Value}{w:World}(h:Sl w 1 v n xs):Calls prog 299 #[v] w fun e w'=>(∃ v',e=.returned v'∧Sl w 1 v' n xs∧∀ B,Frs B v→Frs B v')∧w'=w:=by
 have HS:=Hm h;obtain⟨A,c,rfl,h2,h3,h4,h4',h5⟩:=h
 have hz:A=none→n=0:=fun e=>by
  by_cases hn:0<n
  ·obtain⟨ad,e',-⟩:=h5 hn;rw[e] at e';cases e'
  ·omega
 have HF:Hd (Sl w 1 (.slice A n n) n xs∧∀ B,Frs B (.slice A n c)→Frs B (.slice A n n)):=⟨⟨A,n,rfl,h2,Wak _,by omega,hz,h5⟩,fun B hB ad m c' e=>by
  cases e
  exact hB _ _ _ rfl⟩
 unfold maxLen at h4;clear h2 h4' h5 hz;have hc:(n:Int)≤(c:Int):=by omega
 by_cases hn:n=0
 ·subst hn;go_enter func299,ntmps299
  go_wp2_with fail;go_ret
  exact⟨⟨_,rfl,HF.o⟩,rfl⟩
 ·go_enter func299,ntmps299
  go_wp2_with fail;go_ret
  exact⟨⟨_,rfl,by have:=HF.o;simpa using this⟩,rfl⟩
def Yx (_R:List Int)(_a:Nat):Bool:=false
theorem n_R {R:List Int}(_h:U.AllR R):(cnt R).of 3=(R.length:Nat):=Qcr R
theorem Qdr {R:List Int}(_h:U.AllR R){a:Nat}(ha:a≤R.length):Yx R a=false↔∃ p q,R=p++q∧(cnt p).of 3=(a:Int) :=
 ⟨fun _=>⟨R.take a,R.drop a,(Wbh _ _).symm,by rw[Qcr,Wbb];omega⟩,fun _=>rfl⟩
theorem Xb {R:List Int}{v:Value}{n a:Nat}{w:World}(_hsl:Sl w 1 v n (Qs R))(_hR:U.AllR R)(_hn:n≤1000000)(_ha:a≤n) :
  Calls prog 269 #[v,.int .i64 a] w fun e w'=>e=.returned (.bool (Yx R a))∧w'=w:=Qr7 v a w
def Qt8 (R:List Int)(l:List PT)(w:World)(e:Ending)(w':World):Prop :=
 Below w.heap.size w w'∧((∃ v X,(tnF R 3 1 Cn.zero 0 l).2=0∧OpR (tnF R 3 1 Cn.zero 0 l).1 X R∧e=.returned (.tuple #[v,.nilIface])∧Sl w' 1 v (rap X R).length (Qs (rap X R))∧Frs w.heap.size v) ∨
  ((tnF R 3 1 Cn.zero 0 l).2=10∧e=.returned (.tuple #[.slice none 0 0,errno 10])))
theorem Qt9 {P d q R:List Int}{w:World}{b o n c a:Nat}(h:Sl w 1 (.slice (some ⟨b,o,none⟩) n c) n (Qs R))(hR:R=P++(d++q))(ha:P.length=a):Sl w 1 (.slice (some ⟨b,o+a,none⟩) d.length (c-a)) d.length (Qs d)∧Sl w 1 (.slice (some ⟨b,o+a,none⟩) 0 (c-a)) 0 []:=by
 have hn:R.length=n:=by have:=h.len;rw[QL] at this;omega
 have e1:Qs R=Qs P++(Qs d++Qs q):=by rw[hR,ZX,ZX]
 have e2:R.length=P.length+(d.length+q.length):=by rw[← QL,← QL,← QL,← QL,e1,Wad,Wad]
 have h1:=h.part1 (i:=a) (m:=d.length) (by omega);have h2:=h.part1 (i:=a) (m:=0) (by omega);rw[e1,List.drop_left' (by rw[QL,ha]),List.take_left' (QL d)] at h1;rw[List.take_zero] at h2
 exact⟨h1,h2⟩
structure PlS_R (w:World)(bx:Nat)(x y:Int)(z:ByteArray)(w':World):Prop where
 below:Below w.heap.size w w'
 box:Blk w' bx 117 #[.int .i64 x,.int .i64 y,.string z]
abbrev XX (w:World)(bx:Nat)(x y:Int)(z:ByteArray)(w':World):Prop:=PlS_R w bx x y z w'∧w'.cell? ⟨bx,0,none⟩=some (.int .i64 x)∧w'.cell? ⟨bx,1,none⟩=some (.int .i64 y)∧w'.cell? ⟨bx,2,none⟩=some (.string z)
theorem PlS_R.x {w w':World}{bx:Nat}{x y:Int}{z:ByteArray}(h:PlS_R w bx x y z w'):XX w bx x y z w':=by
 have z0:=h.box.cell 0;have z1:=h.box.cell 1;have z2:=h.box.cell 2;simp only[Wab,Waa,Wae] at z0 z1 z2
 exact⟨h,z0,z1,z2⟩
theorem PlS_R.drew {w w':World}{bx:Nat}{x y:Int}{z:ByteArray}(h:PlS_R w bx x y z w'):PlS_R w bx x y z w'.drew:=⟨Qe h.below,h.box⟩
theorem PlS_R.call {w w' w2:World}{bx:Nat}{x y:Int}{z:ByteArray}(h:PlS_R w bx x y z w')(hb:Below w'.heap.size w' w2):PlS_R w bx x y z w2:=⟨Qa h.below hb,h.box.below hb h.box.lt⟩
theorem PlS_R.app {w w' w2:World}{bx:Nat}{x y:Int}{z:ByteArray}{v:Value}(h:PlS_R w bx x y z w')(hb:Below w.heap.size w' w2)(hg:w'.grownBy w2 v.ownBlock)(hv:v.ownBlock≠some bx):PlS_R w bx x y z w2 :=
 ⟨h.below.trans hb,h.box.only (Only.of_grown hg) (fun e=>hv e.symm)⟩
theorem Qds {R P d q:List Int}{a x:Nat}(hA:U.AllR R)(hR:R=P++(d++q))(ha:P.length=a)(hd:(cnt d).of 3=(x:Int)):(P++d).length=a+x:=by
 have h:U.AllR ((P++d)++q):=by rw[Wah,← hR];exact hA
 have h1:=n_R (Zd h).1;have h2:=n_R (Zd (Zd h).1).1;rw[Qp,h2,hd,ha] at h1;omega
theorem nd_R {R P d q:List Int}{x:Nat}(hA:U.AllR R)(hR:R=P++(d++q))(hd:(cnt d).of 3=(x:Int)):d.length=x:=by
 have h:U.AllR (P++(d++q)):=hR ▸ hA;have h1:=n_R (Zd (Zd h).2).1;rw[hd] at h1;omega
section
attribute [local go_sem] Qz
theorem Qdt {R:List Int}{l:List PT}{v1 v2:Value}{n1 n2:Nat}{w:World}(hR:U.AllR R)(hbl:bl R≤8000)(hs1:Sl w 1 v1 n1 (Qs R))(hs2:Sl w 3 v2 n2 (opv l))(hg:∀ p∈l,p.Good)(hw:was l=(cnt R).of 3)(hpl:Qd l≤100000)(hn:n2≤100000) :
  Calls prog 267 #[v1,v2,.func (.func 268) #[] #[],.func (.func 269) #[] #[]] w (Qt8 R l w):=by
 have hln:l.length=n2:=by have:=hs2.len;rw[Zw] at this;omega
 have HS1:=Hm hs1;have HS2:=Hm hs2;have HG:=Hm hg;have HA:=Hm hR;have HBL:=Hm hbl;have HLN:=Hm hln;have HPL:=Hm hpl;obtain⟨A1,c1,rfl,-,hq3,hq4,hq5,hq6⟩:=hs1;unfold maxLen at hq4;have HQ6:=Hm hq6;clear hq6;have HN1:Hd (R.length=n1):=⟨by have:=HS1.o.len;rw[QL] at this;omega⟩;have HST:=Hm (PlI.start hw);obtain⟨A2,c2,rfl,-⟩:=hs2;clear hR hbl hg hw hpl;go_enter func267,ntmps267
 go_wp2_with fail
 go_loopw [10,11,17] (fun out av iv wr=>∃ (k a:Nat) (P Q T:List Int),iv=.int .i64 (k:Int)∧av=.int .i64 (a:Int)∧P.length=a∧wr.ownsRow w.heap.size 21 1 out T.length (Qs T)∧Below w.heap.size w wr∧PlI R 3 l k P Q T) (fun _ _ iv _=>n2-(intOf iv).toNat)
 case atStart=>exact⟨0,0,[],R,[],rfl,rfl,rfl,World.ownsRow_nil _ _ _ _,Wac _ _,HST.o⟩
 case round =>
  obtain⟨k,a,P,Q,T,rfl,rfl,hap,hown,hbel,hI⟩:=hrel;have HB:=Hm hbel;have HOW:=Hm hown;have HI:=Hm hI;obtain⟨Ao,co,rfl⟩:=Qm hown;have hsz:=hbel.size;have hkle:k≤n2:=by have:=hI.k_le;have:=HLN.o;omega
  have hRP:R=P++Q:=hI.eq;have hallP:U.AllR P:=(Zd (hRP ▸ HA.o)).1;have hofP:(cnt P).of 3=(a:Int):=by rw[n_R hallP,hap]
  have haR:a≤n1:=by
   have h1:=HN1.o;have h2:Qs R=Qs P++Qs Q:=by rw[hRP,ZX]
   have h3:=congrArg List.length h2;rw[Wad,QL,QL,QL] at h3;omega
  have hn1:n1≤40000:=by
   have h1:=n_R HA.o;have h2:=of_le (rs:=R) (n:=bl R) (QB R) 3
   have:=HBL.o
   have:=HN1.o
   omega
  by_cases hkn:k<n2
  ·have hkl:k<l.length:=by have:=HLN.o;omega
   obtain⟨b0,o0,c0,hv,hlt,y0,y1,y2⟩:=(HS2.o.below hbel).part hkn hkl
   cases hv
   have hgk:=HG.o _ (Wau hkl);obtain⟨rs,hsp⟩:=hgk.2;have hput:l[k].put=U.encs rs:=by have:=hsp.eq;rwa [Wam] at this
   have hal:=hsp.all
   have hrsl:bl rs≤100000:=by
    have h1:=Y2 (Wau hkl);have h2:=HPL.o;have h3:(U.encs rs).length=bl rs:=rfl;rw[hput] at h1;omega
   have HRS:=Hm (Wao hal hrsl)
   have hTl:bl T≤108000:=by
    have h1:=hI.siz;have h2:=HPL.o;have h3:=HBL.o;have h4:bl P≤bl R:=by rw[hRP,bl_append];omega
    omega
   have hTn:T.length≤432000:=by
    have h2:=QB T;omega
   have HTN:=Hm hTn;obtain⟨x,hx⟩:∃ x:Nat,(x:Int)=l[k].keep+l[k].drop:=⟨(l[k].keep+l[k].drop).toNat,by have:=hgk.1.2;omega⟩
   have hxr:a+x≤n1:=by
    have h1:=hI.rest;rw[ZW hkl,was] at h1;have h2:=ZJ fun p hp=>(HG.o p (List.mem_of_mem_drop (i:=k+1) hp)).1
    have h3:(cnt R).of 3=(cnt P).of 3+(cnt Q).of 3:=by rw[hRP,Qp]
    have h4:=n_R HA.o;have h5:=HN1.o;omega
   have HBADP:Hd (Yx R a=false):=⟨(Qdr HA.o (by have:=HN1.o;omega)).2 ⟨P,Q,hRP,hofP⟩⟩
   have HSTOP:Hd (Yx R (a+x)=true→(tnF R 3 1 Cn.zero 0 l).2=10):=⟨fun hb=>HI.o.stop (by decide) HG.o hkl (fun d q e e2=>by
    have:Yx R (a+x)=false:=(Qdr HA.o (by have:=HN1.o;omega)).2 ⟨P++d,q,by rw[HI.o.eq,e,Wah],by rw[Qp,hofP,e2];omega⟩
    rw[this] at hb;cases hb)⟩
   have HGO:Hd (Yx R (a+x)=false→∃ d q,R=P++(d++q)∧(cnt d).of 3=x∧PlI R 3 l (k+1) (P++d) q (T++(kept l[k] d++rs))):=⟨fun hb=>by
    obtain⟨p,q,e1,e2⟩:=(Qdr HA.o (by have:=HN1.o;omega)).1 hb;obtain⟨d,q',rfl,-,e4⟩:=XN (u:=3) (a:=(a:Int)) (n:=(x:Int)) (P:=P) (Q:=Q) (c:=cnt p) hofP (by omega) (by decide) ⟨p,q,by rw[← hRP];exact e1,by rw[e2];omega,rfl⟩
    exact⟨d,q',hRP,e4,HI.o.step (by decide) HG.o hkl (by rw[e4,hx]) hput hal⟩⟩
   have harg:=hgk.1;have HAP:=Hm hap;clear hown hbel hI HI hRP hallP hofP hgk hsp hal hrsl hTl hTn hap;generalize l[k]=p at *;rcases harg.cases with ⟨b,hb,rfl⟩ | ⟨d9,hd9,rfl⟩ | ⟨d9,hd9,rfl⟩
   ·subst hput;obtain rfl:x=0:=by dsimp only at hx;omega
    dsimp only at y0 y1 y2 hx;have HPB:Hd (PlS_R w wr.heap.size 0 0 ⟨(U.encs rs).toArray⟩ (wr.alloc (.cells #[.int .i64 0,.int .i64 0,.string ⟨(U.encs rs).toArray⟩] 117))):=⟨⟨Qb HB.o _,Blk.new _ _ _⟩⟩;have HOWB:=Hm (HOW.o.alloc (.cells #[.int .i64 0,.int .i64 0,.string ⟨(U.encs rs).toArray⟩] 117));have HOB:Hd ((Value.slice Ao T.length co).ownBlock≠some wr.heap.size):=⟨fun e=>by have:=(HOW.o.lt _ e).2;omega⟩;have hbad:Yx R (a+0)=false:=HBADP.o;obtain⟨d,q,HRE,HDX,HNX⟩:=HGO.o hbad;have HNEXT:Hd ((P++d).length=a∧PlI R 3 l (k+1) (P++d) q (T++rs)):=⟨Qds HA.o HRE HAP.o HDX,by have h:=HNX;unfold kept at h;rw[if_neg (by dsimp only;omega)] at h;exact h⟩;clear HRE HDX HNX hbad harg;have hw1:IntKind.i64.wrap ((a:Int)+0)=(a:Int):=by rw[Waw]<;>omega
    have hac:(a:Int)≤(c1:Int):=by omega
    have hw2:IntKind.i64.wrap (a:Int)=(a:Int):=by rw[Waw]<;>omega
    go_wp2_with (go_at_call 269;refine (Xb (HS1.o.below (Qb HB.o _)) HA.o (by omega) haR).mono ?_;rintro e w5 ⟨rfl,rfl⟩;rw[HBADP.o])
    generalize wr.alloc (.cells #[.int .i64 0,.int .i64 0,.string ⟨(U.encs rs).toArray⟩] 117)=wb at HPB HOWB ⊢;generalize wr.heap.size=bx at HPB HOB ⊢;have hx0:=HPB.o.drew.x;have HPUT:=Hm (fun W=>Qc9 HRS.o.1 W (by have:=HRS.o.2;omega))
    have HB63:Hd (T.length+rs.length≤maxLen∧(T.length+rs.length)*4≤140737488355328):=⟨by
     have h1:=HTN.o;have h2:rs.length≤400000:=by have h3:=QB rs;have h4:=HRS.o.2;omega
     unfold maxLen;omega⟩
    clear y0 y1 y2 hlt;have ha0:(0:Int)≤(a:Int):=by omega
    rcases A1 with _ | ⟨b1,o1,p1⟩
    ·clear hq5
     go_region_held3 (fun w'=>XX w bx 0 0 ⟨(U.encs rs).toArray⟩ w')
      (first | exact HPB.o.drew.x | exact (PlS_R.call (And.left (by assumption)) (by assumption)).x | exact (PlS_R.app (And.left (by assumption)) (by assumption) (by assumption) HOB.o).x | assumption)
      (first
       | (refine Z6 Xa (by first | exact HOWB.o.drew | exact own_below HOWB.o.drew (by assumption)) rfl rfl rfl rfl ?_)
       | (refine ZL Xa (Qs rs) v8 (by first | exact HOWB.o.drew | exact own_below HOWB.o.drew (by assumption)) hs8 rfl rfl rfl rfl (Qa5 rs) HB63.o.1 HB63.o.2 (PlS_R.below (And.left (by assumption))).size ?_;intro v9 w9 hown9 hbel9 hgr9 hnew9)
       | (go_at_call 268;refine (HPUT.o _).mono ?_;rintro e w8 ⟨hb8,v8,rfl,hs8⟩)
      )
     all_goals
      have HO9:=Hm hown9;have HB9:=Hm ((HPB.o.drew.call hb8).below.trans hbel9);clear hown9 hbel9 hgr9 hnew9 hb8 hs8;go_wp2_with fail
      exact⟨⟨k+1,_,P++d,q,T++rs,by go_num,rfl,HNEXT.o.1,by rw[ZX];have h:=HO9.o;rwa [show T.length+rs.length=(T++rs).length by rw[← QL,← QL,← QL,ZX,Wad]] at h,HB9.o,HNEXT.o.2⟩,by simp only[intOf];omega⟩
    ·by_cases hca:c1=a
     ·subst hca
      go_region_held3 (fun w'=>XX w bx 0 0 ⟨(U.encs rs).toArray⟩ w')
       (first | exact HPB.o.drew.x | exact (PlS_R.call (And.left (by assumption)) (by assumption)).x | exact (PlS_R.app (And.left (by assumption)) (by assumption) (by assumption) HOB.o).x | assumption)
       (first
        | (refine Z6 Xa (by first | exact HOWB.o.drew | exact own_below HOWB.o.drew (by assumption)) rfl rfl rfl rfl ?_)
        | (refine ZL Xa (Qs rs) v8 (by first | exact HOWB.o.drew | exact own_below HOWB.o.drew (by assumption)) hs8 rfl rfl rfl rfl (Qa5 rs) HB63.o.1 HB63.o.2 (PlS_R.below (And.left (by assumption))).size ?_;intro v9 w9 hown9 hbel9 hgr9 hnew9)
        | (go_at_call 268;refine (HPUT.o _).mono ?_;rintro e w8 ⟨hb8,v8,rfl,hs8⟩)
       )
      all_goals
       have HO9:=Hm hown9;have HB9:=Hm ((HPB.o.drew.call hb8).below.trans hbel9);clear hown9 hbel9 hgr9 hnew9 hb8 hs8;go_wp2_with fail
       exact⟨⟨k+1,_,P++d,q,T++rs,by go_num,rfl,HNEXT.o.1,by rw[ZX];have h:=HO9.o;rwa [show T.length+rs.length=(T++rs).length by rw[← QL,← QL,← QL,ZX,Wad]] at h,HB9.o,HNEXT.o.2⟩,by simp only[intOf];omega⟩
     ·skip
      go_region_held3 (fun w'=>XX w bx 0 0 ⟨(U.encs rs).toArray⟩ w')
       (first | exact HPB.o.drew.x | exact (PlS_R.call (And.left (by assumption)) (by assumption)).x | exact (PlS_R.app (And.left (by assumption)) (by assumption) (by assumption) HOB.o).x | assumption)
       (first
        | (refine Z6 Xa (by first | exact HOWB.o.drew | exact own_below HOWB.o.drew (by assumption)) rfl rfl rfl rfl ?_)
        | (refine ZL Xa (Qs rs) v8 (by first | exact HOWB.o.drew | exact own_below HOWB.o.drew (by assumption)) hs8 rfl rfl rfl rfl (Qa5 rs) HB63.o.1 HB63.o.2 (PlS_R.below (And.left (by assumption))).size ?_;intro v9 w9 hown9 hbel9 hgr9 hnew9)
        | (go_at_call 268;refine (HPUT.o _).mono ?_;rintro e w8 ⟨hb8,v8,rfl,hs8⟩)
       )
      all_goals
       have HO9:=Hm hown9;have HB9:=Hm ((HPB.o.drew.call hb8).below.trans hbel9);clear hown9 hbel9 hgr9 hnew9 hb8 hs8;go_wp2_with fail
       exact⟨⟨k+1,_,P++d,q,T++rs,by go_num,rfl,HNEXT.o.1,by rw[ZX];have h:=HO9.o;rwa [show T.length+rs.length=(T++rs).length by rw[← QL,← QL,← QL,ZX,Wad]] at h,HB9.o,HNEXT.o.2⟩,by simp only[intOf];omega⟩
   ·have hrs0:rs=[]:=by
     by_cases e:rs=[]
     ·exact e
     ·exact absurd hput.symm (ZZ e)
    subst hrs0;obtain rfl:x=d9:=by dsimp only at hx;omega
    clear hput;dsimp only at y0 y1 y2 hx;have HPB:Hd (PlS_R w wr.heap.size 0 (x:Int) ⟨#[]⟩ (wr.alloc (.cells #[.int .i64 0,.int .i64 (x:Int),.string ⟨#[]⟩] 117))):=⟨⟨Qb HB.o _,Blk.new _ _ _⟩⟩;have HOWB:=Hm (HOW.o.alloc (.cells #[.int .i64 0,.int .i64 (x:Int),.string ⟨#[]⟩] 117));have HOB:Hd ((Value.slice Ao T.length co).ownBlock≠some wr.heap.size):=⟨fun e=>by have:=(HOW.o.lt _ e).2;omega⟩;clear hx;have hn0:0<n1:=by omega
    obtain⟨b1,o1,rfl⟩:=HS1.o.addr1 hn0;have hw1:IntKind.i64.wrap ((a:Int)+(x:Int))=(a:Int)+(x:Int):=by rw[Waw]<;>omega
    have hw2:IntKind.i64.wrap (a:Int)=(a:Int):=by rw[Waw]<;>omega
    have hw3:IntKind.i64.wrap ((a:Int)+0)=(a:Int):=by rw[Waw]<;>omega
    have hac:(a:Int)≤(c1:Int):=by omega
    have ha0:(0:Int)≤(a:Int):=by omega
    have hca:¬ c1=a:=by omega
    have hxa:((a:Int)+(x:Int))=((a+x:Nat):Int):=by omega
    have HXA:=Hm hxa;clear hxa
    by_cases hbad:Yx R (a+x)=true
    ·have HE:=Hm (HSTOP.o hbad);have HBT:=Hm hbad;clear hbad harg
     go_wp2_with (first
      | (go_at_call_of 269 (Value.int .i64 (a:Int));refine (Xb (HS1.o.below (Qb HB.o _)) HA.o (by omega) haR).mono ?_;rintro e w5 ⟨rfl,rfl⟩;rw[HBADP.o])
      | (go_at_call 269;rw[HXA.o];refine (Xb (HS1.o.below (Qb HB.o _)) HA.o (by omega) hxr).mono ?_;rintro e w5 ⟨rfl,rfl⟩;rw[HBT.o]))
     go_ret2
     exact⟨Qb HB.o _,.inr ⟨HE.o,rfl⟩⟩
    ·have hbad:Yx R (a+x)=false:=by simpa using hbad
     have HBF:=Hm hbad;obtain⟨d,q,HRE,HDX,HNX⟩:=HGO.o hbad;have HNEXT:Hd ((P++d).length=a+x∧PlI R 3 l (k+1) (P++d) q T):=⟨Qds HA.o HRE HAP.o HDX,by have h:=HNX;unfold kept at h;rw[if_neg (by dsimp only;omega),Wam,Wam] at h;exact h⟩;clear HRE HDX HNX hbad harg
     go_wp2_with (first
      | (go_at_call_of 269 (Value.int .i64 (a:Int));refine (Xb (HS1.o.below (Qb HB.o _)) HA.o (by omega) haR).mono ?_;rintro e w5 ⟨rfl,rfl⟩;rw[HBADP.o])
      | (go_at_call 269;rw[HXA.o];refine (Xb (HS1.o.below (Qb HB.o _)) HA.o (by omega) hxr).mono ?_;rintro e w5 ⟨rfl,rfl⟩;rw[HBF.o]))
     generalize wr.alloc (.cells #[.int .i64 0,.int .i64 (x:Int),.string ⟨#[]⟩] 117)=wb at HPB HOWB ⊢;generalize wr.heap.size=bx at HPB HOB ⊢;have hx0:=HPB.o.drew.x
     have HPUT:Hd (∀ W,Calls prog 268 #[.string ⟨#[]⟩] W fun e w'=>Below W.heap.size W w'∧∃ A c,e=.returned (.slice A 0 c)):=⟨fun W=>by
      refine (Qc9 (rs:=[]) (fun r hr=>by cases hr) W (by decide)).mono ?_;rintro e w' ⟨hb,v,rfl,A,c,rfl,-⟩
      exact⟨hb,A,c,rfl⟩⟩
     clear y0 y1 y2 hlt;have hax:(a:Int)+(x:Int)≤(c1:Int):=by omega
     have hax0:(0:Int)≤(a:Int)+(x:Int):=by omega
     have haxn:((a:Int)+(x:Int)).toNat=a+x:=by omega
     go_region_held3 (fun w'=>XX w bx 0 (x:Int) ⟨#[]⟩ w')
      (first | exact HPB.o.drew.x | exact (PlS_R.call (And.left (by assumption)) (by assumption)).x | exact (PlS_R.app (And.left (by assumption)) (by assumption) (by assumption) HOB.o).x | assumption)
      (first
       | (refine Z6 Xa (by first | exact HOWB.o.drew | exact own_below HOWB.o.drew (by assumption)) rfl rfl rfl rfl ?_)
       | (go_at_call 268;refine (HPUT.o _).mono ?_;rintro e w8 ⟨hb8,A8,c8,rfl⟩)
      )
     all_goals
      have HO9:=Hm (own_below HOWB.o.drew hb8);have HB9:=Hm (HPB.o.drew.call hb8).below;clear hb8;go_wp2_with fail
      exact⟨⟨k+1,a+x,P++d,q,T,by go_num,by go_num,HNEXT.o.1,HO9.o,HB9.o,HNEXT.o.2⟩,by simp only[intOf];omega⟩
   ·have hrs0:rs=[]:=by
     by_cases e:rs=[]
     ·exact e
     ·exact absurd hput.symm (ZZ e)
    subst hrs0;obtain rfl:x=d9:=by dsimp only at hx;omega
    clear hput;dsimp only at y0 y1 y2 hx;have HPB:Hd (PlS_R w wr.heap.size (x:Int) 0 ⟨#[]⟩ (wr.alloc (.cells #[.int .i64 (x:Int),.int .i64 0,.string ⟨#[]⟩] 117))):=⟨⟨Qb HB.o _,Blk.new _ _ _⟩⟩;have HOWB:=Hm (HOW.o.alloc (.cells #[.int .i64 (x:Int),.int .i64 0,.string ⟨#[]⟩] 117));have HOB:Hd ((Value.slice Ao T.length co).ownBlock≠some wr.heap.size):=⟨fun e=>by have:=(HOW.o.lt _ e).2;omega⟩;clear hx;have hn0:0<n1:=by omega
    obtain⟨b1,o1,rfl⟩:=HS1.o.addr1 hn0;have hw1:IntKind.i64.wrap ((a:Int)+(x:Int))=(a:Int)+(x:Int):=by rw[Waw]<;>omega
    have hw2:IntKind.i64.wrap (a:Int)=(a:Int):=by rw[Waw]<;>omega
    have hw3:IntKind.i64.wrap ((a:Int)+0)=(a:Int):=by rw[Waw]<;>omega
    have hac:(a:Int)≤(c1:Int):=by omega
    have ha0:(0:Int)≤(a:Int):=by omega
    have hca:¬ c1=a:=by omega
    have hxa:((a:Int)+(x:Int))=((a+x:Nat):Int):=by omega
    have HXA:=Hm hxa;clear hxa
    by_cases hbad:Yx R (a+x)=true
    ·have HE:=Hm (HSTOP.o hbad);have HBT:=Hm hbad;clear hbad harg
     go_wp2_with (first
      | (go_at_call_of 269 (Value.int .i64 (a:Int));refine (Xb (HS1.o.below (Qb HB.o _)) HA.o (by omega) haR).mono ?_;rintro e w5 ⟨rfl,rfl⟩;rw[HBADP.o])
      | (go_at_call 269;rw[HXA.o];refine (Xb (HS1.o.below (Qb HB.o _)) HA.o (by omega) hxr).mono ?_;rintro e w5 ⟨rfl,rfl⟩;rw[HBT.o]))
     go_ret2
     exact⟨Qb HB.o _,.inr ⟨HE.o,rfl⟩⟩
    ·have hbad:Yx R (a+x)=false:=by simpa using hbad
     have HBF:=Hm hbad;obtain⟨d,q,HRE,HDX,HNX⟩:=HGO.o hbad;have HNEXT:Hd ((P++d).length=a+x∧PlI R 3 l (k+1) (P++d) q (T++d)):=⟨Qds HA.o HRE HAP.o HDX,by have h:=HNX;unfold kept at h;rw[if_pos (by dsimp only;omega),Wam] at h;exact h⟩;have HND:Hd (d.length=x):=⟨nd_R HA.o HRE HDX⟩
     have HSEG:Hd (∀ W,Below w.heap.size w W→Sl W 1 (.slice (some ⟨b1,o1+a,none⟩) x (c1-a)) x (Qs d)):=⟨fun W hb=>by
      have h:=(Qt9 (HS1.o.below hb) HRE HAP.o).1
      rwa [HND.o] at h⟩
     have HB63:Hd (T.length+x≤maxLen∧(T.length+x)*4≤140737488355328):=⟨by
      have h1:=HTN.o;have h2:x≤400000:=by omega
      unfold maxLen;omega⟩
     clear HRE HDX HNX hbad harg
     go_wp2_with (first
      | (go_at_call_of 269 (Value.int .i64 (a:Int));refine (Xb (HS1.o.below (Qb HB.o _)) HA.o (by omega) haR).mono ?_;rintro e w5 ⟨rfl,rfl⟩;rw[HBADP.o])
      | (go_at_call 269;rw[HXA.o];refine (Xb (HS1.o.below (Qb HB.o _)) HA.o (by omega) hxr).mono ?_;rintro e w5 ⟨rfl,rfl⟩;rw[HBF.o]))
     generalize wr.alloc (.cells #[.int .i64 (x:Int),.int .i64 0,.string ⟨#[]⟩] 117)=wb at HPB HOWB ⊢;generalize wr.heap.size=bx at HPB HOB ⊢;have hx0:=HPB.o.drew.x
     have HPUT:Hd (∀ W,Calls prog 268 #[.string ⟨#[]⟩] W fun e w'=>Below W.heap.size W w'∧∃ A c,e=.returned (.slice A 0 c)):=⟨fun W=>by
      refine (Qc9 (rs:=[]) (fun r hr=>by cases hr) W (by decide)).mono ?_;rintro e w' ⟨hb,v,rfl,A,c,rfl,-⟩
      exact⟨hb,A,c,rfl⟩⟩
     clear y0 y1 y2 hlt;have hax:(a:Int)+(x:Int)≤(c1:Int):=by omega
     have hax0:(0:Int)≤(a:Int)+(x:Int):=by omega
     have haxn:((a:Int)+(x:Int)).toNat=a+x:=by omega
     go_region_held3 (fun w'=>XX w bx (x:Int) 0 ⟨#[]⟩ w')
      (first | exact HPB.o.drew.x | exact (PlS_R.call (And.left (by assumption)) (by assumption)).x | exact (PlS_R.app (And.left (by assumption)) (by assumption) (by assumption) HOB.o).x | assumption)
      (first
       | (refine ZL Xa (Qs d) (.slice (some ⟨b1,o1+a,none⟩) x (c1-a)) (by first | exact HOWB.o.drew | exact own_below HOWB.o.drew (by assumption)) (HSEG.o _ (PlS_R.below (And.left (by assumption)))) rfl rfl rfl rfl (Qa5 d) HB63.o.1 HB63.o.2 (PlS_R.below (And.left (by assumption))).size ?_;intro v9 w9 hown9 hbel9 hgr9 hnew9)
       | (refine Z6 Xa (by first | exact hown9 | exact own_below hown9 (by assumption)) rfl rfl rfl rfl ?_)
       | (go_at_call 268;refine (HPUT.o _).mono ?_;rintro e w8 ⟨hb8,A8,c8,rfl⟩)
      )
     all_goals
      have HO9:Hd (w8.ownsRow w.heap.size 21 1 v9 (T.length+x) (Qs T++Qs d)∨w9.ownsRow w.heap.size 21 1 v9 (T.length+x) (Qs T++Qs d)):=⟨.inr hown9⟩
      first
      | (have HB9:=Hm ((HPB.o.drew.call hb8).below.trans hbel9);have HO8:=Hm hown9;clear hb8 hown9 hbel9 hgr9 hnew9 HO9;go_wp2_with fail;exact⟨⟨k+1,a+x,P++d,q,T++d,by go_num,by go_num,HNEXT.o.1,by rw[ZX];have h:=HO8.o;rwa [show T.length+x=(T++d).length by rw[← HND.o,← QL,← QL,← QL,ZX,Wad]] at h,HB9.o,HNEXT.o.2⟩,by simp only[intOf];omega⟩)
      | (have HB9:=Hm (Qa (HPB.o.drew.below.trans hbel9) hb8);have HO8:=Hm (own_below hown9 hb8);clear hb8 hown9 hbel9 hgr9 hnew9 HO9;go_wp2_with fail;exact⟨⟨k+1,a+x,P++d,q,T++d,by go_num,by go_num,HNEXT.o.1,by rw[ZX];have h:=HO8.o;rwa [show T.length+x=(T++d).length by rw[← HND.o,← QL,← QL,← QL,ZX,Wad]] at h,HB9.o,HNEXT.o.2⟩,by simp only[intOf];omega⟩)
  ·obtain rfl:k=n2:=by omega
   obtain⟨f1,X,f2,f3⟩:=hI.finish (by decide) HLN.o.symm;subst f3;have HF:=Hm (Wao f1 f2);have HS9:=Hm (Sl.of_own hown);have HF9:=Hm (Frs.of_own hown);clear hown hbel hI f1 f2 hRP hallP hofP hap;go_wp2_with (go_at_call 299;refine (Qt7 HS9.o).mono ?_;rintro e w9 ⟨⟨v9,rfl,hs9,hf9⟩,rfl⟩;have HS10:=Hm hs9;have HF10:=Hm (hf9 _ HF9.o);clear hs9 hf9)
   go_ret2
   exact⟨HB.o,.inl ⟨_,X,HF.o.1,HF.o.2,rfl,HS10.o,HF10.o⟩⟩
end
end
section
open Go.RowKit
theorem Qwc {R:List Int}{l:List PT}{v2:Value}{n2 f:Nat}{w:World}(hs:ShS w f 3 R)(hg:Hdl w)(hs2:Sl w 3 v2 n2 (opv l))(hpl:Qd l≤100000)(hn:n2≤100000)(hc:chk l ((cnt R).of 3)=0) :
  Calls prog 210 #[.pointer (some ⟨f,0,none⟩),v2] w (Js f 3 R l w):=by
 have HLN:=Hm (Qac hs);have HALL:=Hm hs.all;have HSZ:=Hm hs.sz;obtain⟨t,vh,vr,hk,hv⟩:=hs.ex;obtain⟨rfl,rfl,hsl⟩:=hv.k3 rfl;obtain⟨A,c,rfl⟩:∃ A c,vr=.slice A R.length c:=(by obtain⟨A,c,e,-⟩:=hsl;exact⟨A,c,e⟩);have HS1:=Hm hsl;have HK:=Hm hk;have HS2:=Hm hs2;have HG:=Hm hg;have HP:Hd (∀ p∈l,p.put.length≤35184372087808):=⟨fun p hp=>by have:=Y2 hp;omega⟩;have HC:=Hm hc;obtain⟨hgd,hw⟩:=J4 hc;have HGD:=Hm hgd;have HW:=Hm hw;have HPL:=Hm hpl;have HN:=Hm hn;obtain⟨A2,c2,rfl,-⟩:=hs2;have h0:=QJ R 3;have h1:=of_le (rs:=R) (n:=bl R) (QB R) 3;have h2:=hs.sz;have HM:Hd (-9223372036854775808≤(cnt R).of 3∧(cnt R).of 3≤9223372036854775807):=⟨by omega⟩
 by_cases hk0:(tnF R 3 1 Cn.zero 0 l).2=0
 ·have HK0:=Hm hk0;have HBND:Hd (comes (tnF R 3 1 Cn.zero 0 l).1≤200000):=⟨by have:=Qcz (by decide) hgd hw hk0;omega⟩
  by_cases hov:8000<comes (tnF R 3 1 Cn.zero 0 l).1
  ·have HOV:=Hm hov;clear hs hg hc h0 h1 h2 hsl hk hgd hw hpl hn hv hk0 hov;go_enter func210,ntmps210
   go_wp2_with (first
    | (go_at_call 263;refine HLN.o.mono ?_;rintro e w1 ⟨rfl,hb1⟩;have HB1:=Hm hb1;clear hb1)
    | (go_at_call 262;refine (Zv (HG.o.below HB1.o) (HS2.o.below HB1.o) HP.o HM.o).mono ?_;rintro e w2 ⟨⟨ev,rfl,-,hev⟩,hb2⟩;rw[HC.o] at hev;rw[show Q4 0=Value.nilIface from rfl] at hev;obtain rfl:=hev;have hx2:=Qa HB1.o hb2;have HB2:=Hm hx2;have hk2:=HK.o.below hx2 HK.o.lt;have HK2:=Hm hk2;obtain⟨z0,z1,z2,z3⟩:=Qk hk2;have zf:=hk2.frozen;have zl:=hk2.lt;clear hb2 hx2 hk2)
    | (go_at_call 267;refine (Qdt HALL.o HSZ.o (HS1.o.below (Qb HB2.o _)) (HS2.o.below (Qb HB2.o _)) HGD.o HW.o HPL.o HN.o).mono ?_;rintro e w3 ⟨hb3,hpost⟩;obtain⟨v,X,-,hX,rfl,hslv,hfr⟩:=hpost.resolve_right (fun h=>by have:=h.1;rw[HK0.o] at this;cases this);obtain⟨A3,c3,rfl⟩:∃ A3 c3,v=.slice A3 ((rap X R)).length c3:=(by obtain⟨A,c,e,-⟩:=hslv;exact⟨A,c,e⟩);have HSLV:=Hm hslv;have HFR:=Hm hfr;have HX:=Hm hX;have HB3:=Hm hb3;have hn3:=(Blk.new w2 275 #[.int .i64 3,.string ⟨#[]⟩,.slice none 0 0,.slice none 0 0]).below hb3 (by simp);have HN3:=Hm hn3;obtain⟨y0,y1,y2,y3⟩:=Qk hn3;have yf:=hn3.frozen;have yl:=hn3.lt;have hx3:Below w2.heap.size w2 w3:=Qa (Qb (Wac _ w2) _) hb3;have HX3:=Hm hx3;clear z0 z1 z2 z3 zf zl;have hcm:=hX.sizes.2;have hlen:(U.encs (rap X R)).length=bl (rap X R):=rfl;have hi:(8000:Int)<((U.encs (rap X R)).length:Int):=(by have:=HOV.o;omega);clear hb3 hpost hX hslv hfr hn3 hx3 hcm hlen)
    | (go_at_call 205;refine (X7 (u:=3) (R:=rap X R) (t:=[]) (vh:=.slice none 0 0) (vr:=.slice A3 (rap X R).length c3) (QW HX.o.allP HALL.o) (by decide) (by have h1:=HX.o.sizes.2;have h2:=HBND.o;omega) (HN3.o.set_ 3 (.slice A3 (rap X R).length c3)) ⟨fun h=>by omega,fun h=>by omega,fun _=>⟨rfl,rfl,HSLV.o.frs (S:=fun k=>k=w2.heap.size) HFR.o ((Only.refl (fun k=>k=w2.heap.size) w3).setCell (p:=⟨w2.heap.size,3,none⟩) (.inl rfl) (.slice A3 (rap X R).length c3)) (fun k e=>by subst e;simp)⟩⟩).mono ?_;rintro e w5 ⟨rfl,hb5⟩;have hn5:=(HN3.o.set_ 3 (.slice A3 (rap X R).length c3)).below hb5 (by simp;exact yl);have ho5:Only (fun _=>False) w w5:=((Only.of_below (Qa HB2.o HX3.o):Only (fun _=>False) w w3).setCell (p:=⟨w2.heap.size,3,none⟩) (.inr HB2.o.size) (.slice A3 (rap X R).length c3)).then_below hb5;have HO5:=Hm ho5;have HV5:Hd (ShV w5 3 (rap X R) _ _ _):=⟨ShV.below (⟨fun h=>by omega,fun h=>by omega,fun _=>⟨rfl,rfl,HSLV.o.frs (S:=fun k=>k=w2.heap.size) HFR.o ((Only.refl (fun k=>k=w2.heap.size) w3).setCell (p:=⟨w2.heap.size,3,none⟩) (.inl rfl) (.slice A3 (rap X R).length c3)) (fun k e=>by subst e;simp)⟩⟩:ShV _ 3 (rap X R) ([]) (.slice none 0 0) (.slice A3 (rap X R).length c3)) hb5⟩;have hk5:=HK.o.only ho5 (fun h=>h);have HK5:=Hm hk5;clear y0 y1 y2 y3 yf yl;obtain⟨y0,y1,y2,y3⟩:=Qk hn5;have yf:=hn5.frozen;have yl:=hn5.lt;obtain⟨z0,z1,z2,z3⟩:=Qk hk5;have zf:=hk5.frozen;have zl:=hk5.lt;clear hb5 hn5 ho5 hk5))
   go_ret
   exact⟨HO5.o.mono (fun _ _ h=>h.elim),fun h=>absurd HC.o h,fun _=>.inr ⟨HK0.o,X,HX.o,.inl ⟨by have:=HX.o.sizes.2;have:=HOV.o;omega,rfl,HO5.o.below (Wak _) (fun _ _ h=>h)⟩⟩⟩
  ·have HOV:=Hm hov;clear hs hg hc h0 h1 h2 hsl hk hgd hw hpl hn hv hk0 hov;go_enter func210,ntmps210
   go_wp2_with (first
    | (go_at_call 263;refine HLN.o.mono ?_;rintro e w1 ⟨rfl,hb1⟩;have HB1:=Hm hb1;clear hb1)
    | (go_at_call 262;refine (Zv (HG.o.below HB1.o) (HS2.o.below HB1.o) HP.o HM.o).mono ?_;rintro e w2 ⟨⟨ev,rfl,-,hev⟩,hb2⟩;rw[HC.o] at hev;rw[show Q4 0=Value.nilIface from rfl] at hev;obtain rfl:=hev;have hx2:=Qa HB1.o hb2;have HB2:=Hm hx2;have hk2:=HK.o.below hx2 HK.o.lt;have HK2:=Hm hk2;obtain⟨z0,z1,z2,z3⟩:=Qk hk2;have zf:=hk2.frozen;have zl:=hk2.lt;clear hb2 hx2 hk2)
    | (go_at_call 267;refine (Qdt HALL.o HSZ.o (HS1.o.below (Qb HB2.o _)) (HS2.o.below (Qb HB2.o _)) HGD.o HW.o HPL.o HN.o).mono ?_;rintro e w3 ⟨hb3,hpost⟩;obtain⟨v,X,-,hX,rfl,hslv,hfr⟩:=hpost.resolve_right (fun h=>by have:=h.1;rw[HK0.o] at this;cases this);obtain⟨A3,c3,rfl⟩:∃ A3 c3,v=.slice A3 ((rap X R)).length c3:=(by obtain⟨A,c,e,-⟩:=hslv;exact⟨A,c,e⟩);have HSLV:=Hm hslv;have HFR:=Hm hfr;have HX:=Hm hX;have HB3:=Hm hb3;have hn3:=(Blk.new w2 275 #[.int .i64 3,.string ⟨#[]⟩,.slice none 0 0,.slice none 0 0]).below hb3 (by simp);have HN3:=Hm hn3;obtain⟨y0,y1,y2,y3⟩:=Qk hn3;have yf:=hn3.frozen;have yl:=hn3.lt;have hx3:Below w2.heap.size w2 w3:=Qa (Qb (Wac _ w2) _) hb3;have HX3:=Hm hx3;clear z0 z1 z2 z3 zf zl;have hcm:=hX.sizes.2;have hlen:(U.encs (rap X R)).length=bl (rap X R):=rfl;have hi:¬ ((8000:Int)<((U.encs (rap X R)).length:Int)):=(by have:=HOV.o;omega);clear hb3 hpost hX hslv hfr hn3 hx3 hcm hlen)
    | (go_at_call 205;refine (X7 (u:=3) (R:=rap X R) (t:=[]) (vh:=.slice none 0 0) (vr:=.slice A3 (rap X R).length c3) (QW HX.o.allP HALL.o) (by decide) (by have h1:=HX.o.sizes.2;have h2:=HBND.o;omega) (HN3.o.set_ 3 (.slice A3 (rap X R).length c3)) ⟨fun h=>by omega,fun h=>by omega,fun _=>⟨rfl,rfl,HSLV.o.frs (S:=fun k=>k=w2.heap.size) HFR.o ((Only.refl (fun k=>k=w2.heap.size) w3).setCell (p:=⟨w2.heap.size,3,none⟩) (.inl rfl) (.slice A3 (rap X R).length c3)) (fun k e=>by subst e;simp)⟩⟩).mono ?_;rintro e w5 ⟨rfl,hb5⟩;have hn5:=(HN3.o.set_ 3 (.slice A3 (rap X R).length c3)).below hb5 (by simp;exact yl);have ho5:Only (fun _=>False) w w5:=((Only.of_below (Qa HB2.o HX3.o):Only (fun _=>False) w w3).setCell (p:=⟨w2.heap.size,3,none⟩) (.inr HB2.o.size) (.slice A3 (rap X R).length c3)).then_below hb5;have HO5:=Hm ho5;have HV5:Hd (ShV w5 3 (rap X R) _ _ _):=⟨ShV.below (⟨fun h=>by omega,fun h=>by omega,fun _=>⟨rfl,rfl,HSLV.o.frs (S:=fun k=>k=w2.heap.size) HFR.o ((Only.refl (fun k=>k=w2.heap.size) w3).setCell (p:=⟨w2.heap.size,3,none⟩) (.inl rfl) (.slice A3 (rap X R).length c3)) (fun k e=>by subst e;simp)⟩⟩:ShV _ 3 (rap X R) ([]) (.slice none 0 0) (.slice A3 (rap X R).length c3)) hb5⟩;have hk5:=HK.o.only ho5 (fun h=>h);have HK5:=Hm hk5;clear y0 y1 y2 y3 yf yl;obtain⟨y0,y1,y2,y3⟩:=Qk hn5;have yf:=hn5.frozen;have yl:=hn5.lt;obtain⟨z0,z1,z2,z3⟩:=Qk hk5;have zf:=hk5.frozen;have zl:=hk5.lt;clear hb5 hn5 ho5 hk5))
   go_ret;have hcm:bl (rap X R)≤8000:=by have:=HX.o.sizes.2;have:=HOV.o;omega
   have hkf:=(((HK5.o.set_ 0 (.int .i64 3)).set_ 1 (.string ⟨#[]⟩)).set_ 2 (.slice none 0 0)).set_ 3 (.slice A3 (rap X R).length c3);have hof:Only (fun k=>k=f) w5 _:=((((Only.refl (fun k=>k=f) w5).setCell (p:=⟨f,0,none⟩) (.inl rfl) (.int .i64 3)).setCell (p:=⟨f,1,none⟩) (.inl rfl) (.string ⟨#[]⟩)).setCell (p:=⟨f,2,none⟩) (.inl rfl) (.slice none 0 0)).setCell (p:=⟨f,3,none⟩) (.inl rfl) (.slice A3 (rap X R).length c3)
   exact⟨(HO5.o.mono (fun _ _ h=>h.elim)).trans hof,fun h=>absurd HC.o h,fun _=>.inr ⟨HK0.o,X,HX.o,.inr ⟨hcm,rfl,QW HX.o.allP HALL.o,by decide,hcm,_,_,_,hkf,HV5.o.frs (Frs.nil _) HFR.o hof (fun k e=>by subst e;have:=HK2.o.lt;simp;omega),Frs.nil _,HFR.o.mono (by have:=HB2.o.size;simp;omega)⟩⟩⟩
 ·have HK0:=Hm hk0;clear hs hg hc h0 h1 h2 hsl hk hgd hw hpl hn hv hk0;go_enter func210,ntmps210
  go_wp2_with (first
   | (go_at_call 263;refine HLN.o.mono ?_;rintro e w1 ⟨rfl,hb1⟩;have HB1:=Hm hb1;clear hb1)
   | (go_at_call 262;refine (Zv (HG.o.below HB1.o) (HS2.o.below HB1.o) HP.o HM.o).mono ?_;rintro e w2 ⟨⟨ev,rfl,-,hev⟩,hb2⟩;rw[HC.o] at hev;rw[show Q4 0=Value.nilIface from rfl] at hev;obtain rfl:=hev;have hx2:=Qa HB1.o hb2;have HB2:=Hm hx2;have hk2:=HK.o.below hx2 HK.o.lt;have HK2:=Hm hk2;obtain⟨z0,z1,z2,z3⟩:=Qk hk2;have zf:=hk2.frozen;have zl:=hk2.lt;clear hb2 hx2 hk2)
   | (go_at_call 267;refine (Qdt HALL.o HSZ.o (HS1.o.below (Qb HB2.o _)) (HS2.o.below (Qb HB2.o _)) HGD.o HW.o HPL.o HN.o).mono ?_;rintro e w3 ⟨hb3,hpost⟩;obtain⟨ht10,rfl⟩:=hpost.resolve_left (fun h=>by obtain⟨v,X,h,-⟩:=h;exact HK0.o h);unfold errno;have hn3:=(Blk.new w2 275 #[.int .i64 3,.string ⟨#[]⟩,.slice none 0 0,.slice none 0 0]).below hb3 (by simp);have HN3:=Hm hn3;obtain⟨y0,y1,y2,y3⟩:=Qk hn3;have yf:=hn3.frozen;have yl:=hn3.lt;have hx3:Below w2.heap.size w2 w3:=Qa (Qb (Wac _ w2) _) hb3;have HX3:=Hm hx3;clear z0 z1 z2 z3 zf zl;have ho4:Only (fun _=>False) w _:=(Only.of_below (Qa HB2.o hx3):Only (fun _=>False) w w3).setCell (p:=⟨w2.heap.size,3,none⟩) (.inr HB2.o.size) (.slice none 0 0);have HO4:=Hm ho4;have HT10:=Hm ht10;clear hpost hb3 hn3 hx3 ho4 ht10))
  go_ret
  exact⟨HO4.o.mono (fun _ _ h=>h.elim),fun h=>absurd HC.o h,fun _=>.inl ⟨HT10.o,rfl,HO4.o.below (Wak _) (fun _ _ h=>h)⟩⟩
end
section
open Go.RowKit
theorem Xd:El prog 54 5 1 1:=El.mk' underlying54 (by kernel_rfl) (by decide)
theorem Qbf (R:List Int):∀ v∈u8s (U.encs R),v.oneCell'=true:=by
 intro v hv;unfold u8s at hv;obtain⟨x,-,rfl⟩:=List.mem_map.1 hv
 rfl
theorem ZY (a b:List Int):u8s (U.encs (a++b))=u8s (U.encs a)++u8s (U.encs b):=by rw[U.encs_append];unfold u8s;rw[Wbo]
theorem QN (R:List Int):(u8s (U.encs R)).length=(U.encs R).length:=by unfold u8s;rw[Wbi]
theorem Qwe {n:Nat}{v:Value}{xs:List Value}{w:World}(h:Sl w 1 v n xs):Calls prog 300 #[v] w fun e w'=>(∃ v',e=.returned v'∧Sl w 1 v' n xs∧∀ B,Frs B v→Frs B v')∧w'=w:=by
 have HS:=Hm h;obtain⟨A,c,rfl,h2,h3,h4,h4',h5⟩:=h
 have hz:A=none→n=0:=fun e=>by
  by_cases hn:0<n
  ·obtain⟨ad,e',-⟩:=h5 hn;rw[e] at e';cases e'
  ·omega
 have HF:Hd (Sl w 1 (.slice A n n) n xs∧∀ B,Frs B (.slice A n c)→Frs B (.slice A n n)):=⟨⟨A,n,rfl,h2,Wak _,by omega,hz,h5⟩,fun B hB ad m c' e=>by
  cases e
  exact hB _ _ _ rfl⟩
 unfold maxLen at h4;clear h2 h4' h5 hz;have hc:(n:Int)≤(c:Int):=by omega
 by_cases hn:n=0
 ·subst hn;go_enter func300,ntmps300
  go_wp2_with fail;go_ret
  exact⟨⟨_,rfl,HF.o⟩,rfl⟩
 ·go_enter func300,ntmps300
  go_wp2_with fail;go_ret
  exact⟨⟨_,rfl,by have:=HF.o;simpa using this⟩,rfl⟩
def Yl (R:List Int)(a:Nat):Bool:=Xp (U.encs R) a
theorem n_B {R:List Int}(_h:U.AllR R):(cnt R).of 1=((U.encs R).length:Nat):=ZH R
theorem Qd8 {R:List Int}(h:U.AllR R){a:Nat}(ha:a≤(U.encs R).length):Yl R a=false↔∃ p q,R=p++q∧(cnt p).of 1=(a:Int):=by
 unfold Yl;rw[Qp6 _ _ ha,Bool.not_eq_false',Qaw h ha]
 constructor
 ·rintro⟨p,q,e1,e2⟩
  exact⟨p,q,e1,by rw[ZH,e2]⟩
 ·rintro⟨p,q,e1,e2⟩
  exact⟨p,q,e1,by rw[ZH] at e2;omega⟩
theorem Xe {R:List Int}{v:Value}{n a:Nat}{w:World}(hsl:Sl w 1 v n (u8s (U.encs R)))(_hR:U.AllR R)(hn:n≤1000000)(ha:a≤n) :
  Calls prog 272 #[v,.int .i64 a] w fun e w'=>e=.returned (.bool (Yl R a))∧w'=w:=Qp7 hsl hn ha
def Qwf (R:List Int)(l:List PT)(w:World)(e:Ending)(w':World):Prop :=
 Below w.heap.size w w'∧((∃ v X,(tnF R 1 1 Cn.zero 0 l).2=0∧OpR (tnF R 1 1 Cn.zero 0 l).1 X R∧e=.returned (.tuple #[v,.nilIface])∧Sl w' 1 v (U.encs (rap X R)).length (u8s (U.encs (rap X R)))∧Frs w.heap.size v) ∨
  ((tnF R 1 1 Cn.zero 0 l).2=10∧e=.returned (.tuple #[.slice none 0 0,errno 10])))
theorem Qwg {P d q R:List Int}{w:World}{b o n c a:Nat}(h:Sl w 1 (.slice (some ⟨b,o,none⟩) n c) n (u8s (U.encs R)))(hR:R=P++(d++q))(ha:(U.encs P).length=a):Sl w 1 (.slice (some ⟨b,o+a,none⟩) (U.encs d).length (c-a)) (U.encs d).length (u8s (U.encs d))∧Sl w 1 (.slice (some ⟨b,o+a,none⟩) 0 (c-a)) 0 []:=by
 have hn:(U.encs R).length=n:=by have:=h.len;rw[QN] at this;omega
 have e1:u8s (U.encs R)=u8s (U.encs P)++(u8s (U.encs d)++u8s (U.encs q)):=by rw[hR,ZY,ZY]
 have e2:(U.encs R).length=(U.encs P).length+((U.encs d).length+(U.encs q).length):=by rw[← QN,← QN,← QN,← QN,e1,Wad,Wad]
 have h1:=h.part1 (i:=a) (m:=(U.encs d).length) (by omega);have h2:=h.part1 (i:=a) (m:=0) (by omega);rw[e1,List.drop_left' (by rw[QN,ha]),List.take_left' (QN d)] at h1;rw[List.take_zero] at h2
 exact⟨h1,h2⟩
structure PlS_B (w:World)(bx:Nat)(x y:Int)(z:ByteArray)(w':World):Prop where
 below:Below w.heap.size w w'
 box:Blk w' bx 117 #[.int .i64 x,.int .i64 y,.string z]
abbrev Jd (w:World)(bx:Nat)(x y:Int)(z:ByteArray)(w':World):Prop:=PlS_B w bx x y z w'∧w'.cell? ⟨bx,0,none⟩=some (.int .i64 x)∧w'.cell? ⟨bx,1,none⟩=some (.int .i64 y)∧w'.cell? ⟨bx,2,none⟩=some (.string z)
theorem PlS_B.x {w w':World}{bx:Nat}{x y:Int}{z:ByteArray}(h:PlS_B w bx x y z w'):Jd w bx x y z w':=by
 have z0:=h.box.cell 0;have z1:=h.box.cell 1;have z2:=h.box.cell 2;simp only[Wab,Waa,Wae] at z0 z1 z2
 exact⟨h,z0,z1,z2⟩
theorem PlS_B.drew {w w':World}{bx:Nat}{x y:Int}{z:ByteArray}(h:PlS_B w bx x y z w'):PlS_B w bx x y z w'.drew:=⟨Qe h.below,h.box⟩
theorem PlS_B.call {w w' w2:World}{bx:Nat}{x y:Int}{z:ByteArray}(h:PlS_B w bx x y z w')(hb:Below w'.heap.size w' w2):PlS_B w bx x y z w2:=⟨Qa h.below hb,h.box.below hb h.box.lt⟩
theorem PlS_B.app {w w' w2:World}{bx:Nat}{x y:Int}{z:ByteArray}{v:Value}(h:PlS_B w bx x y z w')(hb:Below w.heap.size w' w2)(hg:w'.grownBy w2 v.ownBlock)(hv:v.ownBlock≠some bx):PlS_B w bx x y z w2 :=
 ⟨h.below.trans hb,h.box.only (Only.of_grown hg) (fun e=>hv e.symm)⟩
theorem Qd9 {R P d q:List Int}{a x:Nat}(hA:U.AllR R)(hR:R=P++(d++q))(ha:(U.encs P).length=a)(hd:(cnt d).of 1=(x:Int)):(U.encs (P++d)).length=a+x:=by
 have h:U.AllR ((P++d)++q):=by rw[Wah,← hR];exact hA
 have h1:=n_B (Zd h).1;have h2:=n_B (Zd (Zd h).1).1;rw[Qp,h2,hd,ha] at h1;omega
theorem nd_B {R P d q:List Int}{x:Nat}(hA:U.AllR R)(hR:R=P++(d++q))(hd:(cnt d).of 1=(x:Int)):(U.encs d).length=x:=by
 have h:U.AllR (P++(d++q)):=hR ▸ hA;have h1:=n_B (Zd (Zd h).2).1;rw[hd] at h1;omega
section
attribute [local go_sem] Qz
theorem Qea {R:List Int}{l:List PT}{v1 v2:Value}{n1 n2:Nat}{w:World}(hR:U.AllR R)(hbl:bl R≤8000)(hs1:Sl w 1 v1 n1 (u8s (U.encs R)))(hs2:Sl w 3 v2 n2 (opv l))(hg:∀ p∈l,p.Good)(hw:was l=(cnt R).of 1)(hpl:Qd l≤100000)(hn:n2≤100000) :
  Calls prog 270 #[v1,v2,.func (.func 271) #[] #[],.func (.func 272) #[] #[]] w (Qwf R l w):=by
 have hln:l.length=n2:=by have:=hs2.len;rw[Zw] at this;omega
 have HS1:=Hm hs1;have HS2:=Hm hs2;have HG:=Hm hg;have HA:=Hm hR;have HBL:=Hm hbl;have HLN:=Hm hln;have HPL:=Hm hpl;obtain⟨A1,c1,rfl,-,hq3,hq4,hq5,hq6⟩:=hs1;unfold maxLen at hq4;have HQ6:=Hm hq6;clear hq6;have HN1:Hd ((U.encs R).length=n1):=⟨by have:=HS1.o.len;rw[QN] at this;omega⟩;have HST:=Hm (PlI.start hw);obtain⟨A2,c2,rfl,-⟩:=hs2;clear hR hbl hg hw hpl;go_enter func270,ntmps270
 go_wp2_with fail
 go_loopw [10,11,17] (fun out av iv wr=>∃ (k a:Nat) (P Q T:List Int),iv=.int .i64 (k:Int)∧av=.int .i64 (a:Int)∧(U.encs P).length=a∧wr.ownsRow w.heap.size 5 1 out (U.encs T).length (u8s (U.encs T))∧Below w.heap.size w wr∧PlI R 1 l k P Q T) (fun _ _ iv _=>n2-(intOf iv).toNat)
 case atStart=>exact⟨0,0,[],R,[],rfl,rfl,rfl,World.ownsRow_nil _ _ _ _,Wac _ _,HST.o⟩
 case round =>
  obtain⟨k,a,P,Q,T,rfl,rfl,hap,hown,hbel,hI⟩:=hrel;have HB:=Hm hbel;have HOW:=Hm hown;have HI:=Hm hI;obtain⟨Ao,co,rfl⟩:=Qm hown;have hsz:=hbel.size;have hkle:k≤n2:=by have:=hI.k_le;have:=HLN.o;omega
  have hRP:R=P++Q:=hI.eq;have hallP:U.AllR P:=(Zd (hRP ▸ HA.o)).1;have hofP:(cnt P).of 1=(a:Int):=by rw[n_B hallP,hap]
  have haR:a≤n1:=by
   have h1:=HN1.o;have h2:u8s (U.encs R)=u8s (U.encs P)++u8s (U.encs Q):=by rw[hRP,ZY]
   have h3:=congrArg List.length h2;rw[Wad,QN,QN,QN] at h3;omega
  have hn1:n1≤40000:=by
   have h1:=n_B HA.o;have h2:=of_le (rs:=R) (n:=bl R) (QB R) 1
   have:=HBL.o
   have:=HN1.o
   omega
  by_cases hkn:k<n2
  ·have hkl:k<l.length:=by have:=HLN.o;omega
   obtain⟨b0,o0,c0,hv,hlt,y0,y1,y2⟩:=(HS2.o.below hbel).part hkn hkl
   cases hv
   have hgk:=HG.o _ (Wau hkl);obtain⟨rs,hsp⟩:=hgk.2;have hput:l[k].put=U.encs rs:=by have:=hsp.eq;rwa [Wam] at this
   have hal:=hsp.all
   have hrsl:bl rs≤100000:=by
    have h1:=Y2 (Wau hkl);have h2:=HPL.o;have h3:(U.encs rs).length=bl rs:=rfl;rw[hput] at h1;omega
   have HRS:=Hm (Wao hal hrsl)
   have hTl:bl T≤108000:=by
    have h1:=hI.siz;have h2:=HPL.o;have h3:=HBL.o;have h4:bl P≤bl R:=by rw[hRP,bl_append];omega
    omega
   have hTn:(U.encs T).length≤432000:=by
    have h2:=QB T;have h3:(U.encs T).length=bl T:=rfl;omega
   have HTN:=Hm hTn;obtain⟨x,hx⟩:∃ x:Nat,(x:Int)=l[k].keep+l[k].drop:=⟨(l[k].keep+l[k].drop).toNat,by have:=hgk.1.2;omega⟩
   have hxr:a+x≤n1:=by
    have h1:=hI.rest;rw[ZW hkl,was] at h1;have h2:=ZJ fun p hp=>(HG.o p (List.mem_of_mem_drop (i:=k+1) hp)).1
    have h3:(cnt R).of 1=(cnt P).of 1+(cnt Q).of 1:=by rw[hRP,Qp]
    have h4:=n_B HA.o;have h5:=HN1.o;omega
   have HBADP:Hd (Yl R a=false):=⟨(Qd8 HA.o (by have:=HN1.o;omega)).2 ⟨P,Q,hRP,hofP⟩⟩
   have HSTOP:Hd (Yl R (a+x)=true→(tnF R 1 1 Cn.zero 0 l).2=10):=⟨fun hb=>HI.o.stop (by decide) HG.o hkl (fun d q e e2=>by
    have:Yl R (a+x)=false:=(Qd8 HA.o (by have:=HN1.o;omega)).2 ⟨P++d,q,by rw[HI.o.eq,e,Wah],by rw[Qp,hofP,e2];omega⟩
    rw[this] at hb;cases hb)⟩
   have HGO:Hd (Yl R (a+x)=false→∃ d q,R=P++(d++q)∧(cnt d).of 1=x∧PlI R 1 l (k+1) (P++d) q (T++(kept l[k] d++rs))):=⟨fun hb=>by
    obtain⟨p,q,e1,e2⟩:=(Qd8 HA.o (by have:=HN1.o;omega)).1 hb;obtain⟨d,q',rfl,-,e4⟩:=XN (u:=1) (a:=(a:Int)) (n:=(x:Int)) (P:=P) (Q:=Q) (c:=cnt p) hofP (by omega) (by decide) ⟨p,q,by rw[← hRP];exact e1,by rw[e2];omega,rfl⟩
    exact⟨d,q',hRP,e4,HI.o.step (by decide) HG.o hkl (by rw[e4,hx]) hput hal⟩⟩
   have harg:=hgk.1;have HAP:=Hm hap;clear hown hbel hI HI hRP hallP hofP hgk hsp hal hrsl hTl hTn hap;generalize l[k]=p at *;rcases harg.cases with ⟨b,hb,rfl⟩ | ⟨d9,hd9,rfl⟩ | ⟨d9,hd9,rfl⟩
   ·subst hput;obtain rfl:x=0:=by dsimp only at hx;omega
    dsimp only at y0 y1 y2 hx;have HPB:Hd (PlS_B w wr.heap.size 0 0 ⟨(U.encs rs).toArray⟩ (wr.alloc (.cells #[.int .i64 0,.int .i64 0,.string ⟨(U.encs rs).toArray⟩] 117))):=⟨⟨Qb HB.o _,Blk.new _ _ _⟩⟩;have HOWB:=Hm (HOW.o.alloc (.cells #[.int .i64 0,.int .i64 0,.string ⟨(U.encs rs).toArray⟩] 117));have HOB:Hd ((Value.slice Ao (U.encs T).length co).ownBlock≠some wr.heap.size):=⟨fun e=>by have:=(HOW.o.lt _ e).2;omega⟩;have hbad:Yl R (a+0)=false:=HBADP.o;obtain⟨d,q,HRE,HDX,HNX⟩:=HGO.o hbad;have HNEXT:Hd ((U.encs (P++d)).length=a∧PlI R 1 l (k+1) (P++d) q (T++rs)):=⟨Qd9 HA.o HRE HAP.o HDX,by have h:=HNX;unfold kept at h;rw[if_neg (by dsimp only;omega)] at h;exact h⟩;clear HRE HDX HNX hbad harg;have hw1:IntKind.i64.wrap ((a:Int)+0)=(a:Int):=by rw[Waw]<;>omega
    have hac:(a:Int)≤(c1:Int):=by omega
    have hw2:IntKind.i64.wrap (a:Int)=(a:Int):=by rw[Waw]<;>omega
    go_wp2_with (go_at_call 272;refine (Xe (HS1.o.below (Qb HB.o _)) HA.o (by omega) haR).mono ?_;rintro e w5 ⟨rfl,rfl⟩;rw[HBADP.o])
    generalize wr.alloc (.cells #[.int .i64 0,.int .i64 0,.string ⟨(U.encs rs).toArray⟩] 117)=wb at HPB HOWB ⊢;generalize wr.heap.size=bx at HPB HOB ⊢;have hx0:=HPB.o.drew.x;have HPUT:=Hm (fun W=>Qcy HRS.o.1 W (by have:=HRS.o.2;omega))
    have HB63:Hd ((U.encs T).length+(U.encs rs).length≤maxLen∧((U.encs T).length+(U.encs rs).length)*1≤140737488355328):=⟨by
     have h1:=HTN.o;have h2:(U.encs rs).length≤400000:=by have h3:=QB rs;have h4:=HRS.o.2;have h5:(U.encs rs).length=bl rs:=rfl;omega
     unfold maxLen;omega⟩
    clear y0 y1 y2 hlt;have ha0:(0:Int)≤(a:Int):=by omega
    rcases A1 with _ | ⟨b1,o1,p1⟩
    ·clear hq5
     go_region_held3 (fun w'=>Jd w bx 0 0 ⟨(U.encs rs).toArray⟩ w')
      (first | exact HPB.o.drew.x | exact (PlS_B.call (And.left (by assumption)) (by assumption)).x | exact (PlS_B.app (And.left (by assumption)) (by assumption) (by assumption) HOB.o).x | assumption)
      (first
       | (refine Z6 Xd (by first | exact HOWB.o.drew | exact own_below HOWB.o.drew (by assumption)) rfl rfl rfl rfl ?_)
       | (refine ZL Xd (u8s (U.encs rs)) v8 (by first | exact HOWB.o.drew | exact own_below HOWB.o.drew (by assumption)) hs8 rfl rfl rfl rfl (Qbf rs) HB63.o.1 HB63.o.2 (PlS_B.below (And.left (by assumption))).size ?_;intro v9 w9 hown9 hbel9 hgr9 hnew9)
       | (go_at_call 271;refine (HPUT.o _).mono ?_;rintro e w8 ⟨hb8,v8,rfl,hs8⟩)
      )
     all_goals
      have HO9:=Hm hown9;have HB9:=Hm ((HPB.o.drew.call hb8).below.trans hbel9);clear hown9 hbel9 hgr9 hnew9 hb8 hs8;go_wp2_with fail
      exact⟨⟨k+1,_,P++d,q,T++rs,by go_num,rfl,HNEXT.o.1,by rw[ZY];have h:=HO9.o;rwa [show (U.encs T).length+(U.encs rs).length=(U.encs (T++rs)).length by rw[← QN,← QN,← QN,ZY,Wad]] at h,HB9.o,HNEXT.o.2⟩,by simp only[intOf];omega⟩
    ·by_cases hca:c1=a
     ·subst hca
      go_region_held3 (fun w'=>Jd w bx 0 0 ⟨(U.encs rs).toArray⟩ w')
       (first | exact HPB.o.drew.x | exact (PlS_B.call (And.left (by assumption)) (by assumption)).x | exact (PlS_B.app (And.left (by assumption)) (by assumption) (by assumption) HOB.o).x | assumption)
       (first
        | (refine Z6 Xd (by first | exact HOWB.o.drew | exact own_below HOWB.o.drew (by assumption)) rfl rfl rfl rfl ?_)
        | (refine ZL Xd (u8s (U.encs rs)) v8 (by first | exact HOWB.o.drew | exact own_below HOWB.o.drew (by assumption)) hs8 rfl rfl rfl rfl (Qbf rs) HB63.o.1 HB63.o.2 (PlS_B.below (And.left (by assumption))).size ?_;intro v9 w9 hown9 hbel9 hgr9 hnew9)
        | (go_at_call 271;refine (HPUT.o _).mono ?_;rintro e w8 ⟨hb8,v8,rfl,hs8⟩)
       )
      all_goals
       have HO9:=Hm hown9;have HB9:=Hm ((HPB.o.drew.call hb8).below.trans hbel9);clear hown9 hbel9 hgr9 hnew9 hb8 hs8;go_wp2_with fail
       exact⟨⟨k+1,_,P++d,q,T++rs,by go_num,rfl,HNEXT.o.1,by rw[ZY];have h:=HO9.o;rwa [show (U.encs T).length+(U.encs rs).length=(U.encs (T++rs)).length by rw[← QN,← QN,← QN,ZY,Wad]] at h,HB9.o,HNEXT.o.2⟩,by simp only[intOf];omega⟩
     ·skip
      go_region_held3 (fun w'=>Jd w bx 0 0 ⟨(U.encs rs).toArray⟩ w')
       (first | exact HPB.o.drew.x | exact (PlS_B.call (And.left (by assumption)) (by assumption)).x | exact (PlS_B.app (And.left (by assumption)) (by assumption) (by assumption) HOB.o).x | assumption)
       (first
        | (refine Z6 Xd (by first | exact HOWB.o.drew | exact own_below HOWB.o.drew (by assumption)) rfl rfl rfl rfl ?_)
        | (refine ZL Xd (u8s (U.encs rs)) v8 (by first | exact HOWB.o.drew | exact own_below HOWB.o.drew (by assumption)) hs8 rfl rfl rfl rfl (Qbf rs) HB63.o.1 HB63.o.2 (PlS_B.below (And.left (by assumption))).size ?_;intro v9 w9 hown9 hbel9 hgr9 hnew9)
        | (go_at_call 271;refine (HPUT.o _).mono ?_;rintro e w8 ⟨hb8,v8,rfl,hs8⟩)
       )
      all_goals
       have HO9:=Hm hown9;have HB9:=Hm ((HPB.o.drew.call hb8).below.trans hbel9);clear hown9 hbel9 hgr9 hnew9 hb8 hs8;go_wp2_with fail
       exact⟨⟨k+1,_,P++d,q,T++rs,by go_num,rfl,HNEXT.o.1,by rw[ZY];have h:=HO9.o;rwa [show (U.encs T).length+(U.encs rs).length=(U.encs (T++rs)).length by rw[← QN,← QN,← QN,ZY,Wad]] at h,HB9.o,HNEXT.o.2⟩,by simp only[intOf];omega⟩
   ·have hrs0:rs=[]:=by
     by_cases e:rs=[]
     ·exact e
     ·exact absurd hput.symm (ZZ e)
    subst hrs0;obtain rfl:x=d9:=by dsimp only at hx;omega
    clear hput;dsimp only at y0 y1 y2 hx;have HPB:Hd (PlS_B w wr.heap.size 0 (x:Int) ⟨#[]⟩ (wr.alloc (.cells #[.int .i64 0,.int .i64 (x:Int),.string ⟨#[]⟩] 117))):=⟨⟨Qb HB.o _,Blk.new _ _ _⟩⟩;have HOWB:=Hm (HOW.o.alloc (.cells #[.int .i64 0,.int .i64 (x:Int),.string ⟨#[]⟩] 117));have HOB:Hd ((Value.slice Ao (U.encs T).length co).ownBlock≠some wr.heap.size):=⟨fun e=>by have:=(HOW.o.lt _ e).2;omega⟩;clear hx;have hn0:0<n1:=by omega
    obtain⟨b1,o1,rfl⟩:=HS1.o.addr1 hn0;have hw1:IntKind.i64.wrap ((a:Int)+(x:Int))=(a:Int)+(x:Int):=by rw[Waw]<;>omega
    have hw2:IntKind.i64.wrap (a:Int)=(a:Int):=by rw[Waw]<;>omega
    have hw3:IntKind.i64.wrap ((a:Int)+0)=(a:Int):=by rw[Waw]<;>omega
    have hac:(a:Int)≤(c1:Int):=by omega
    have ha0:(0:Int)≤(a:Int):=by omega
    have hca:¬ c1=a:=by omega
    have hxa:((a:Int)+(x:Int))=((a+x:Nat):Int):=by omega
    have HXA:=Hm hxa;clear hxa
    by_cases hbad:Yl R (a+x)=true
    ·have HE:=Hm (HSTOP.o hbad);have HBT:=Hm hbad;clear hbad harg
     go_wp2_with (first
      | (go_at_call_of 272 (Value.int .i64 (a:Int));refine (Xe (HS1.o.below (Qb HB.o _)) HA.o (by omega) haR).mono ?_;rintro e w5 ⟨rfl,rfl⟩;rw[HBADP.o])
      | (go_at_call 272;rw[HXA.o];refine (Xe (HS1.o.below (Qb HB.o _)) HA.o (by omega) hxr).mono ?_;rintro e w5 ⟨rfl,rfl⟩;rw[HBT.o]))
     go_ret2
     exact⟨Qb HB.o _,.inr ⟨HE.o,rfl⟩⟩
    ·have hbad:Yl R (a+x)=false:=by simpa using hbad
     have HBF:=Hm hbad;obtain⟨d,q,HRE,HDX,HNX⟩:=HGO.o hbad;have HNEXT:Hd ((U.encs (P++d)).length=a+x∧PlI R 1 l (k+1) (P++d) q T):=⟨Qd9 HA.o HRE HAP.o HDX,by have h:=HNX;unfold kept at h;rw[if_neg (by dsimp only;omega),Wam,Wam] at h;exact h⟩;clear HRE HDX HNX hbad harg
     go_wp2_with (first
      | (go_at_call_of 272 (Value.int .i64 (a:Int));refine (Xe (HS1.o.below (Qb HB.o _)) HA.o (by omega) haR).mono ?_;rintro e w5 ⟨rfl,rfl⟩;rw[HBADP.o])
      | (go_at_call 272;rw[HXA.o];refine (Xe (HS1.o.below (Qb HB.o _)) HA.o (by omega) hxr).mono ?_;rintro e w5 ⟨rfl,rfl⟩;rw[HBF.o]))
     generalize wr.alloc (.cells #[.int .i64 0,.int .i64 (x:Int),.string ⟨#[]⟩] 117)=wb at HPB HOWB ⊢;generalize wr.heap.size=bx at HPB HOB ⊢;have hx0:=HPB.o.drew.x
     have HPUT:Hd (∀ W,Calls prog 271 #[.string ⟨#[]⟩] W fun e w'=>Below W.heap.size W w'∧∃ A c,e=.returned (.slice A 0 c)):=⟨fun W=>by
      refine (Qcy (rs:=[]) (fun r hr=>by cases hr) W (by decide)).mono ?_;rintro e w' ⟨hb,v,rfl,A,c,rfl,-⟩
      exact⟨hb,A,c,rfl⟩⟩
     clear y0 y1 y2 hlt;have hax:(a:Int)+(x:Int)≤(c1:Int):=by omega
     have hax0:(0:Int)≤(a:Int)+(x:Int):=by omega
     have haxn:((a:Int)+(x:Int)).toNat=a+x:=by omega
     go_region_held3 (fun w'=>Jd w bx 0 (x:Int) ⟨#[]⟩ w')
      (first | exact HPB.o.drew.x | exact (PlS_B.call (And.left (by assumption)) (by assumption)).x | exact (PlS_B.app (And.left (by assumption)) (by assumption) (by assumption) HOB.o).x | assumption)
      (first
       | (refine Z6 Xd (by first | exact HOWB.o.drew | exact own_below HOWB.o.drew (by assumption)) rfl rfl rfl rfl ?_)
       | (go_at_call 271;refine (HPUT.o _).mono ?_;rintro e w8 ⟨hb8,A8,c8,rfl⟩)
      )
     all_goals
      have HO9:=Hm (own_below HOWB.o.drew hb8);have HB9:=Hm (HPB.o.drew.call hb8).below;clear hb8;go_wp2_with fail
      exact⟨⟨k+1,a+x,P++d,q,T,by go_num,by go_num,HNEXT.o.1,HO9.o,HB9.o,HNEXT.o.2⟩,by simp only[intOf];omega⟩
   ·have hrs0:rs=[]:=by
     by_cases e:rs=[]
     ·exact e
     ·exact absurd hput.symm (ZZ e)
    subst hrs0;obtain rfl:x=d9:=by dsimp only at hx;omega
    clear hput;dsimp only at y0 y1 y2 hx;have HPB:Hd (PlS_B w wr.heap.size (x:Int) 0 ⟨#[]⟩ (wr.alloc (.cells #[.int .i64 (x:Int),.int .i64 0,.string ⟨#[]⟩] 117))):=⟨⟨Qb HB.o _,Blk.new _ _ _⟩⟩;have HOWB:=Hm (HOW.o.alloc (.cells #[.int .i64 (x:Int),.int .i64 0,.string ⟨#[]⟩] 117));have HOB:Hd ((Value.slice Ao (U.encs T).length co).ownBlock≠some wr.heap.size):=⟨fun e=>by have:=(HOW.o.lt _ e).2;omega⟩;clear hx;have hn0:0<n1:=by omega
    obtain⟨b1,o1,rfl⟩:=HS1.o.addr1 hn0;have hw1:IntKind.i64.wrap ((a:Int)+(x:Int))=(a:Int)+(x:Int):=by rw[Waw]<;>omega
    have hw2:IntKind.i64.wrap (a:Int)=(a:Int):=by rw[Waw]<;>omega
    have hw3:IntKind.i64.wrap ((a:Int)+0)=(a:Int):=by rw[Waw]<;>omega
    have hac:(a:Int)≤(c1:Int):=by omega
    have ha0:(0:Int)≤(a:Int):=by omega
    have hca:¬ c1=a:=by omega
    have hxa:((a:Int)+(x:Int))=((a+x:Nat):Int):=by omega
    have HXA:=Hm hxa;clear hxa
    by_cases hbad:Yl R (a+x)=true
    ·have HE:=Hm (HSTOP.o hbad);have HBT:=Hm hbad;clear hbad harg
     go_wp2_with (first
      | (go_at_call_of 272 (Value.int .i64 (a:Int));refine (Xe (HS1.o.below (Qb HB.o _)) HA.o (by omega) haR).mono ?_;rintro e w5 ⟨rfl,rfl⟩;rw[HBADP.o])
      | (go_at_call 272;rw[HXA.o];refine (Xe (HS1.o.below (Qb HB.o _)) HA.o (by omega) hxr).mono ?_;rintro e w5 ⟨rfl,rfl⟩;rw[HBT.o]))
     go_ret2
     exact⟨Qb HB.o _,.inr ⟨HE.o,rfl⟩⟩
    ·have hbad:Yl R (a+x)=false:=by simpa using hbad
     have HBF:=Hm hbad;obtain⟨d,q,HRE,HDX,HNX⟩:=HGO.o hbad;have HNEXT:Hd ((U.encs (P++d)).length=a+x∧PlI R 1 l (k+1) (P++d) q (T++d)):=⟨Qd9 HA.o HRE HAP.o HDX,by have h:=HNX;unfold kept at h;rw[if_pos (by dsimp only;omega),Wam] at h;exact h⟩;have HND:Hd ((U.encs d).length=x):=⟨nd_B HA.o HRE HDX⟩
     have HSEG:Hd (∀ W,Below w.heap.size w W→Sl W 1 (.slice (some ⟨b1,o1+a,none⟩) x (c1-a)) x (u8s (U.encs d))):=⟨fun W hb=>by
      have h:=(Qwg (HS1.o.below hb) HRE HAP.o).1
      rwa [HND.o] at h⟩
     have HB63:Hd ((U.encs T).length+x≤maxLen∧((U.encs T).length+x)*1≤140737488355328):=⟨by
      have h1:=HTN.o;have h2:x≤400000:=by omega
      unfold maxLen;omega⟩
     clear HRE HDX HNX hbad harg
     go_wp2_with (first
      | (go_at_call_of 272 (Value.int .i64 (a:Int));refine (Xe (HS1.o.below (Qb HB.o _)) HA.o (by omega) haR).mono ?_;rintro e w5 ⟨rfl,rfl⟩;rw[HBADP.o])
      | (go_at_call 272;rw[HXA.o];refine (Xe (HS1.o.below (Qb HB.o _)) HA.o (by omega) hxr).mono ?_;rintro e w5 ⟨rfl,rfl⟩;rw[HBF.o]))
     generalize wr.alloc (.cells #[.int .i64 (x:Int),.int .i64 0,.string ⟨#[]⟩] 117)=wb at HPB HOWB ⊢;generalize wr.heap.size=bx at HPB HOB ⊢;have hx0:=HPB.o.drew.x
     have HPUT:Hd (∀ W,Calls prog 271 #[.string ⟨#[]⟩] W fun e w'=>Below W.heap.size W w'∧∃ A c,e=.returned (.slice A 0 c)):=⟨fun W=>by
      refine (Qcy (rs:=[]) (fun r hr=>by cases hr) W (by decide)).mono ?_;rintro e w' ⟨hb,v,rfl,A,c,rfl,-⟩
      exact⟨hb,A,c,rfl⟩⟩
     clear y0 y1 y2 hlt;have hax:(a:Int)+(x:Int)≤(c1:Int):=by omega
     have hax0:(0:Int)≤(a:Int)+(x:Int):=by omega
     have haxn:((a:Int)+(x:Int)).toNat=a+x:=by omega
     go_region_held3 (fun w'=>Jd w bx (x:Int) 0 ⟨#[]⟩ w')
      (first | exact HPB.o.drew.x | exact (PlS_B.call (And.left (by assumption)) (by assumption)).x | exact (PlS_B.app (And.left (by assumption)) (by assumption) (by assumption) HOB.o).x | assumption)
      (first
       | (refine ZL Xd (u8s (U.encs d)) (.slice (some ⟨b1,o1+a,none⟩) x (c1-a)) (by first | exact HOWB.o.drew | exact own_below HOWB.o.drew (by assumption)) (HSEG.o _ (PlS_B.below (And.left (by assumption)))) rfl rfl rfl rfl (Qbf d) HB63.o.1 HB63.o.2 (PlS_B.below (And.left (by assumption))).size ?_;intro v9 w9 hown9 hbel9 hgr9 hnew9)
       | (refine Z6 Xd (by first | exact hown9 | exact own_below hown9 (by assumption)) rfl rfl rfl rfl ?_)
       | (go_at_call 271;refine (HPUT.o _).mono ?_;rintro e w8 ⟨hb8,A8,c8,rfl⟩)
      )
     all_goals
      have HO9:Hd (w8.ownsRow w.heap.size 5 1 v9 ((U.encs T).length+x) (u8s (U.encs T)++u8s (U.encs d))∨w9.ownsRow w.heap.size 5 1 v9 ((U.encs T).length+x) (u8s (U.encs T)++u8s (U.encs d))):=⟨.inr hown9⟩
      first
      | (have HB9:=Hm ((HPB.o.drew.call hb8).below.trans hbel9);have HO8:=Hm hown9;clear hb8 hown9 hbel9 hgr9 hnew9 HO9;go_wp2_with fail;exact⟨⟨k+1,a+x,P++d,q,T++d,by go_num,by go_num,HNEXT.o.1,by rw[ZY];have h:=HO8.o;rwa [show (U.encs T).length+x=(U.encs (T++d)).length by rw[← HND.o,← QN,← QN,← QN,ZY,Wad]] at h,HB9.o,HNEXT.o.2⟩,by simp only[intOf];omega⟩)
      | (have HB9:=Hm (Qa (HPB.o.drew.below.trans hbel9) hb8);have HO8:=Hm (own_below hown9 hb8);clear hb8 hown9 hbel9 hgr9 hnew9 HO9;go_wp2_with fail;exact⟨⟨k+1,a+x,P++d,q,T++d,by go_num,by go_num,HNEXT.o.1,by rw[ZY];have h:=HO8.o;rwa [show (U.encs T).length+x=(U.encs (T++d)).length by rw[← HND.o,← QN,← QN,← QN,ZY,Wad]] at h,HB9.o,HNEXT.o.2⟩,by simp only[intOf];omega⟩)
  ·obtain rfl:k=n2:=by omega
   obtain⟨f1,X,f2,f3⟩:=hI.finish (by decide) HLN.o.symm;subst f3;have HF:=Hm (Wao f1 f2);have HS9:=Hm (Sl.of_own hown);have HF9:=Hm (Frs.of_own hown);clear hown hbel hI f1 f2 hRP hallP hofP hap;go_wp2_with (go_at_call 300;refine (Qwe HS9.o).mono ?_;rintro e w9 ⟨⟨v9,rfl,hs9,hf9⟩,rfl⟩;have HS10:=Hm hs9;have HF10:=Hm (hf9 _ HF9.o);clear hs9 hf9)
   go_ret2
   exact⟨HB.o,.inl ⟨_,X,HF.o.1,HF.o.2,rfl,HS10.o,HF10.o⟩⟩
end
end
section
open Go.RowKit
theorem Qpk {R:List Int}{l:List PT}{v2:Value}{n2 f:Nat}{w:World}(hs:ShS w f 1 R)(hg:Hdl w)(hs2:Sl w 3 v2 n2 (opv l))(hpl:Qd l≤100000)(hn:n2≤100000)(hc:chk l ((cnt R).of 1)=0) :
  Calls prog 210 #[.pointer (some ⟨f,0,none⟩),v2] w (Js f 1 R l w):=by
 have HLN:=Hm (Qac hs);have HALL:=Hm hs.all;have HSZ:=Hm hs.sz;obtain⟨t,vh,vr,hk,hv⟩:=hs.ex;obtain⟨rfl,rfl,rfl⟩:=hv.k1 rfl
 have hsl:=fun (w2:World)=>(show Sl (Lib.bytesWorld (w2.alloc (.cells #[.int .i64 1,.string ⟨#[]⟩,.slice none 0 0,.slice none 0 0] 275)) 5 ⟨(U.encs R).toArray⟩) 1 (.slice (some ⟨w2.heap.size+1,0,none⟩) (U.encs R).length (grownCap (w2.alloc (.cells #[.int .i64 1,.string ⟨#[]⟩,.slice none 0 0,.slice none 0 0] 275)) (U.encs R).length 0 5)) (U.encs R).length (u8s (U.encs R)) from by
  have h:=Qcx (w2.alloc (.cells #[.int .i64 1,.string ⟨#[]⟩,.slice none 0 0,.slice none 0 0] 275)) 5 (U.encs R) (by have:=hs.sz;show bl R≤_;omega);have e:(w2.alloc (.cells #[.int .i64 1,.string ⟨#[]⟩,.slice none 0 0,.slice none 0 0] 275)).heap.size=w2.heap.size+1:=by simp
  rw[e] at h;exact h)
 have HS1:=Hm hsl;have HK:=Hm hk;have HS2:=Hm hs2;have HG:=Hm hg;have HP:Hd (∀ p∈l,p.put.length≤35184372087808):=⟨fun p hp=>by have:=Y2 hp;omega⟩;have HC:=Hm hc;obtain⟨hgd,hw⟩:=J4 hc;have HGD:=Hm hgd;have HW:=Hm hw;have HPL:=Hm hpl;have HN:=Hm hn;have hbw:∀ w2:World,Below w2.heap.size w2 (Lib.bytesWorld (w2.alloc (.cells #[.int .i64 1,.string ⟨#[]⟩,.slice none 0 0,.slice none 0 0] 275)) 5 ⟨(U.encs R).toArray⟩):=fun w2=>Qa (Qb (Wac _ w2) _) (Xo _ _ _)
 have HBW:=Hm hbw;have HBB:Hd (∀ {w2:World},Below w.heap.size w w2→Below w.heap.size w (Lib.bytesWorld (w2.alloc (.cells #[.int .i64 1,.string ⟨#[]⟩,.slice none 0 0,.slice none 0 0] 275)) 5 ⟨(U.encs R).toArray⟩)):=⟨fun h=>Qa h (hbw _)⟩;clear hbw;obtain⟨A2,c2,rfl,-⟩:=hs2;have h0:=QJ R 1;have h1:=of_le (rs:=R) (n:=bl R) (QB R) 1;have h2:=hs.sz;have HM:Hd (-9223372036854775808≤(cnt R).of 1∧(cnt R).of 1≤9223372036854775807):=⟨by omega⟩
 by_cases hk0:(tnF R 1 1 Cn.zero 0 l).2=0
 ·have HK0:=Hm hk0;have HBND:Hd (comes (tnF R 1 1 Cn.zero 0 l).1≤200000):=⟨by have:=Qcz (by decide) hgd hw hk0;omega⟩
  by_cases hov:8000<comes (tnF R 1 1 Cn.zero 0 l).1
  ·have HOV:=Hm hov;clear hs hg hc h0 h1 h2 hsl hk hgd hw hpl hn hv hk0 hov;go_enter func210,ntmps210
   go_wp2_with (first
    | (go_at_call 263;refine HLN.o.mono ?_;rintro e w1 ⟨rfl,hb1⟩;have HB1:=Hm hb1;clear hb1)
    | (go_at_call 262;refine (Zv (HG.o.below HB1.o) (HS2.o.below HB1.o) HP.o HM.o).mono ?_;rintro e w2 ⟨⟨ev,rfl,-,hev⟩,hb2⟩;rw[HC.o] at hev;rw[show Q4 0=Value.nilIface from rfl] at hev;obtain rfl:=hev;have hx2:=Qa HB1.o hb2;have HB2:=Hm hx2;have hk2:=HK.o.below hx2 HK.o.lt;have HK2:=Hm hk2;obtain⟨z0,z1,z2,z3⟩:=Qk hk2;have zf:=hk2.frozen;have zl:=hk2.lt;clear hb2 hx2 hk2))
   rw[Jr];simp only[Result.andThen];rw[Oper.upon_value];go_wp2_with (go_at_call 270;refine (Qea HALL.o HSZ.o (HS1.o _) (HS2.o.below (HBB.o HB2.o)) HGD.o HW.o HPL.o HN.o).mono ?_;rintro e w3 ⟨hb3,hpost⟩;obtain⟨v,X,-,hX,rfl,hslv,hfr⟩:=hpost.resolve_right (fun h=>by have:=h.1;rw[HK0.o] at this;cases this);obtain⟨A3,c3,rfl⟩:∃ A3 c3,v=.slice A3 (U.encs (rap X R)).length c3:=(by obtain⟨A,c,e,-⟩:=hslv;exact⟨A,c,e⟩);have hcv:=hslv;unfold u8s at hcv;have HCV:=Hm hcv;have HSLV:=Hm hslv;have HFR:=Hm hfr;have HX:=Hm hX;have HB3:=Hm hb3;have hn3:=(Blk.new w2 275 #[.int .i64 1,.string ⟨#[]⟩,.slice none 0 0,.slice none 0 0]).below (Xo _ 5 ⟨(U.encs R).toArray⟩) (by simp) |>.below hb3 (by simp[Lib.bytesWorld_size];omega);have HN3:=Hm hn3;obtain⟨y0,y1,y2,y3⟩:=Qk hn3;have yf:=hn3.frozen;have yl:=hn3.lt;have hx3:Below w2.heap.size w2 w3:=Qa (HBW.o w2) hb3;have HX3:=Hm hx3;clear z0 z1 z2 z3 zf zl;have hcm:=hX.sizes.2;have hlen:(U.encs (rap X R)).length=bl (rap X R):=rfl;have hi:(8000:Int)<((U.encs (rap X R)).length:Int):=(by have:=HOV.o;omega);clear hb3 hpost hX hslv hfr hn3 hx3 hcm hlen)
   rw[XW underlying54 underlying5 underlying9 HCV.o];simp only[Result.andThen];rw[Oper.upon_value];go_wp2_with (go_at_call 205;refine (X7 (u:=1) (R:=rap X R) (t:=U.encs (rap X R)) (vh:=.slice none 0 0) (vr:=.slice none 0 0) (QW HX.o.allP HALL.o) (by decide) (by have h1:=HX.o.sizes.2;have h2:=HBND.o;omega) (HN3.o.set_ 1 (.string ⟨(U.encs (rap X R)).toArray⟩)) ⟨fun _=>⟨rfl,rfl,rfl⟩,fun h=>by omega,fun h=>by omega⟩).mono ?_;rintro e w5 ⟨rfl,hb5⟩;have hn5:=(HN3.o.set_ 1 (.string ⟨(U.encs (rap X R)).toArray⟩)).below hb5 (by simp;exact yl);have ho5:Only (fun _=>False) w w5:=((Only.of_below (Qa HB2.o HX3.o):Only (fun _=>False) w w3).setCell (p:=⟨w2.heap.size,1,none⟩) (.inr HB2.o.size) (.string ⟨(U.encs (rap X R)).toArray⟩)).then_below hb5;have HO5:=Hm ho5;have HV5:Hd (ShV w5 1 (rap X R) _ _ _):=⟨ShV.below (⟨fun _=>⟨rfl,rfl,rfl⟩,fun h=>by omega,fun h=>by omega⟩:ShV _ 1 (rap X R) (U.encs (rap X R)) (.slice none 0 0) (.slice none 0 0)) hb5⟩;have hk5:=HK.o.only ho5 (fun h=>h);have HK5:=Hm hk5;clear y0 y1 y2 y3 yf yl;obtain⟨y0,y1,y2,y3⟩:=Qk hn5;have yf:=hn5.frozen;have yl:=hn5.lt;obtain⟨z0,z1,z2,z3⟩:=Qk hk5;have zf:=hk5.frozen;have zl:=hk5.lt;clear hb5 hn5 ho5 hk5)
   go_ret
   exact⟨HO5.o.mono (fun _ _ h=>h.elim),fun h=>absurd HC.o h,fun _=>.inr ⟨HK0.o,X,HX.o,.inl ⟨by have:=HX.o.sizes.2;have:=HOV.o;omega,rfl,HO5.o.below (Wak _) (fun _ _ h=>h)⟩⟩⟩
  ·have HOV:=Hm hov;clear hs hg hc h0 h1 h2 hsl hk hgd hw hpl hn hv hk0 hov;go_enter func210,ntmps210
   go_wp2_with (first
    | (go_at_call 263;refine HLN.o.mono ?_;rintro e w1 ⟨rfl,hb1⟩;have HB1:=Hm hb1;clear hb1)
    | (go_at_call 262;refine (Zv (HG.o.below HB1.o) (HS2.o.below HB1.o) HP.o HM.o).mono ?_;rintro e w2 ⟨⟨ev,rfl,-,hev⟩,hb2⟩;rw[HC.o] at hev;rw[show Q4 0=Value.nilIface from rfl] at hev;obtain rfl:=hev;have hx2:=Qa HB1.o hb2;have HB2:=Hm hx2;have hk2:=HK.o.below hx2 HK.o.lt;have HK2:=Hm hk2;obtain⟨z0,z1,z2,z3⟩:=Qk hk2;have zf:=hk2.frozen;have zl:=hk2.lt;clear hb2 hx2 hk2))
   rw[Jr];simp only[Result.andThen];rw[Oper.upon_value];go_wp2_with (go_at_call 270;refine (Qea HALL.o HSZ.o (HS1.o _) (HS2.o.below (HBB.o HB2.o)) HGD.o HW.o HPL.o HN.o).mono ?_;rintro e w3 ⟨hb3,hpost⟩;obtain⟨v,X,-,hX,rfl,hslv,hfr⟩:=hpost.resolve_right (fun h=>by have:=h.1;rw[HK0.o] at this;cases this);obtain⟨A3,c3,rfl⟩:∃ A3 c3,v=.slice A3 (U.encs (rap X R)).length c3:=(by obtain⟨A,c,e,-⟩:=hslv;exact⟨A,c,e⟩);have hcv:=hslv;unfold u8s at hcv;have HCV:=Hm hcv;have HSLV:=Hm hslv;have HFR:=Hm hfr;have HX:=Hm hX;have HB3:=Hm hb3;have hn3:=(Blk.new w2 275 #[.int .i64 1,.string ⟨#[]⟩,.slice none 0 0,.slice none 0 0]).below (Xo _ 5 ⟨(U.encs R).toArray⟩) (by simp) |>.below hb3 (by simp[Lib.bytesWorld_size];omega);have HN3:=Hm hn3;obtain⟨y0,y1,y2,y3⟩:=Qk hn3;have yf:=hn3.frozen;have yl:=hn3.lt;have hx3:Below w2.heap.size w2 w3:=Qa (HBW.o w2) hb3;have HX3:=Hm hx3;clear z0 z1 z2 z3 zf zl;have hcm:=hX.sizes.2;have hlen:(U.encs (rap X R)).length=bl (rap X R):=rfl;have hi:¬ ((8000:Int)<((U.encs (rap X R)).length:Int)):=(by have:=HOV.o;omega);clear hb3 hpost hX hslv hfr hn3 hx3 hcm hlen)
   rw[XW underlying54 underlying5 underlying9 HCV.o];simp only[Result.andThen];rw[Oper.upon_value];go_wp2_with (go_at_call 205;refine (X7 (u:=1) (R:=rap X R) (t:=U.encs (rap X R)) (vh:=.slice none 0 0) (vr:=.slice none 0 0) (QW HX.o.allP HALL.o) (by decide) (by have h1:=HX.o.sizes.2;have h2:=HBND.o;omega) (HN3.o.set_ 1 (.string ⟨(U.encs (rap X R)).toArray⟩)) ⟨fun _=>⟨rfl,rfl,rfl⟩,fun h=>by omega,fun h=>by omega⟩).mono ?_;rintro e w5 ⟨rfl,hb5⟩;have hn5:=(HN3.o.set_ 1 (.string ⟨(U.encs (rap X R)).toArray⟩)).below hb5 (by simp;exact yl);have ho5:Only (fun _=>False) w w5:=((Only.of_below (Qa HB2.o HX3.o):Only (fun _=>False) w w3).setCell (p:=⟨w2.heap.size,1,none⟩) (.inr HB2.o.size) (.string ⟨(U.encs (rap X R)).toArray⟩)).then_below hb5;have HO5:=Hm ho5;have HV5:Hd (ShV w5 1 (rap X R) _ _ _):=⟨ShV.below (⟨fun _=>⟨rfl,rfl,rfl⟩,fun h=>by omega,fun h=>by omega⟩:ShV _ 1 (rap X R) (U.encs (rap X R)) (.slice none 0 0) (.slice none 0 0)) hb5⟩;have hk5:=HK.o.only ho5 (fun h=>h);have HK5:=Hm hk5;clear y0 y1 y2 y3 yf yl;obtain⟨y0,y1,y2,y3⟩:=Qk hn5;have yf:=hn5.frozen;have yl:=hn5.lt;obtain⟨z0,z1,z2,z3⟩:=Qk hk5;have zf:=hk5.frozen;have zl:=hk5.lt;clear hb5 hn5 ho5 hk5)
   go_ret;have hcm:bl (rap X R)≤8000:=by have:=HX.o.sizes.2;have:=HOV.o;omega
   have hkf:=(((HK5.o.set_ 0 (.int .i64 1)).set_ 1 (.string ⟨(U.encs (rap X R)).toArray⟩)).set_ 2 (.slice none 0 0)).set_ 3 (.slice none 0 0);have hof:Only (fun k=>k=f) w5 _:=((((Only.refl (fun k=>k=f) w5).setCell (p:=⟨f,0,none⟩) (.inl rfl) (.int .i64 1)).setCell (p:=⟨f,1,none⟩) (.inl rfl) (.string ⟨(U.encs (rap X R)).toArray⟩)).setCell (p:=⟨f,2,none⟩) (.inl rfl) (.slice none 0 0)).setCell (p:=⟨f,3,none⟩) (.inl rfl) (.slice none 0 0)
   exact⟨(HO5.o.mono (fun _ _ h=>h.elim)).trans hof,fun h=>absurd HC.o h,fun _=>.inr ⟨HK0.o,X,HX.o,.inr ⟨hcm,rfl,QW HX.o.allP HALL.o,by decide,hcm,_,_,_,hkf,HV5.o.frs (Frs.nil _) (Frs.nil _) hof (fun k e=>by subst e;have:=HK2.o.lt;simp;omega),Frs.nil _,Frs.nil _⟩⟩⟩
 ·have HK0:=Hm hk0;clear hs hg hc h0 h1 h2 hsl hk hgd hw hpl hn hv hk0;go_enter func210,ntmps210
  go_wp2_with (first
   | (go_at_call 263;refine HLN.o.mono ?_;rintro e w1 ⟨rfl,hb1⟩;have HB1:=Hm hb1;clear hb1)
   | (go_at_call 262;refine (Zv (HG.o.below HB1.o) (HS2.o.below HB1.o) HP.o HM.o).mono ?_;rintro e w2 ⟨⟨ev,rfl,-,hev⟩,hb2⟩;rw[HC.o] at hev;rw[show Q4 0=Value.nilIface from rfl] at hev;obtain rfl:=hev;have hx2:=Qa HB1.o hb2;have HB2:=Hm hx2;have hk2:=HK.o.below hx2 HK.o.lt;have HK2:=Hm hk2;obtain⟨z0,z1,z2,z3⟩:=Qk hk2;have zf:=hk2.frozen;have zl:=hk2.lt;clear hb2 hx2 hk2))
  rw[Jr];simp only[Result.andThen];rw[Oper.upon_value];go_wp2_with (go_at_call 270;refine (Qea HALL.o HSZ.o (HS1.o _) (HS2.o.below (HBB.o HB2.o)) HGD.o HW.o HPL.o HN.o).mono ?_;rintro e w3 ⟨hb3,hpost⟩;obtain⟨ht10,rfl⟩:=hpost.resolve_left (fun h=>by obtain⟨v,X,h,-⟩:=h;exact HK0.o h);unfold errno;have HCV:Hd (Sl w3 1 (.slice none 0 0) 0 (([]:U.Bs).map fun c=>.int .u8 (c.toNat:Int))):=⟨Sl.nil w3 1⟩;have hn3:=(Blk.new w2 275 #[.int .i64 1,.string ⟨#[]⟩,.slice none 0 0,.slice none 0 0]).below (Xo _ 5 ⟨(U.encs R).toArray⟩) (by simp) |>.below hb3 (by simp[Lib.bytesWorld_size];omega);have HN3:=Hm hn3;obtain⟨y0,y1,y2,y3⟩:=Qk hn3;have yf:=hn3.frozen;have yl:=hn3.lt;have hx3:Below w2.heap.size w2 w3:=Qa (HBW.o w2) hb3;have HX3:=Hm hx3;clear z0 z1 z2 z3 zf zl;have ho4:Only (fun _=>False) w _:=(Only.of_below (Qa HB2.o hx3):Only (fun _=>False) w w3).setCell (p:=⟨w2.heap.size,1,none⟩) (.inr HB2.o.size) (.string ⟨#[]⟩);have HO4:=Hm ho4;have HT10:=Hm ht10;clear hpost hb3 hn3 hx3 ho4 ht10)
  rw[XW underlying54 underlying5 underlying9 HCV.o];simp only[Result.andThen];rw[Oper.upon_value];go_wp2_with fail;go_ret
  exact⟨HO4.o.mono (fun _ _ h=>h.elim),fun h=>absurd HC.o h,fun _=>.inl ⟨HT10.o,rfl,HO4.o.below (Wak _) (fun _ _ h=>h)⟩⟩
end
end Go.Proofs.YtckkgdmkfbkaoaaGreatDoor
