/- Texts of the proof. -/
import Derived.Test.YtckkgdmkfbkaoaaGreatDoorM44
import Derived.Test.YtckkgdmkfbkaoaaGreatDoorM17
namespace Go.Proofs.YtckkgdmkfbkaoaaGreatDoor
open Go.Proofs.Tryz
set_option maxRecDepth 100000
set_option maxHeartbeats 32000000
set_option linter.all false
section
open Go.RowKit Go.Sort
structure LnD (n:Int)(R p ln tl:List Int):Prop where
 eq:R=p++(ln++tl)
 cn:(cnt p).l=n
 beg:p=[]∨∃ p',p=p'++[10]
 nol:(cnt ln).l=0
 til:tl=[]∨∃ t,tl=10 :: t
theorem Qub {n:Int}{R:List Int}{c:Cn}(h:Ln n R c):∃ p ln tl,LnD n R p ln tl∧c=cnt p:=by
 obtain⟨p,q,e1,e2,e3,e4⟩:=h
 by_cases hq:0<(cnt q).l
 ·obtain⟨a,b,rfl,ha⟩:=Qv7 hq
  exact⟨p,a,10 :: b,⟨e1,e2,e4,ha,.inr ⟨b,rfl⟩⟩,e3⟩
 ·have:=Yb q
  exact⟨p,q,[],⟨by rw[Wam];exact e1,e2,e4,by omega,.inl rfl⟩,e3⟩
theorem LnD.ln {n:Int}{R p ln tl:List Int}(h:LnD n R p ln tl):Ln n R (cnt p):=⟨p,ln++tl,h.eq,h.cn,rfl,h.beg⟩
theorem Qiu {a b x y:List Int}(h:a++x=b++y)(hb:(cnt b).l=0)(hx:x=[]∨∃ t,x=10 :: t)(hle:∃ d,b=a++d∧x=d++y):a=b∧x=y:=by
 obtain⟨d,e1,e2⟩:=hle
 cases d with
 | nil=>subst e1 e2;exact⟨(Wam _).symm,rfl⟩
 | cons r d =>
  exfalso
  rcases hx with rfl | ⟨t,rfl⟩
  ·cases e2
  ·rw[Wap] at e2;obtain⟨rfl,-⟩:=List.cons.inj e2;rw[e1,QZ,show ((10:Int) :: d)=[10]++d from rfl,QZ,XJ,if_pos rfl] at hb
   have:=Yb a
   have:=Yb d
   omega
theorem LnD.unique {n:Int}{R p ln tl p' ln' tl':List Int}(h:LnD n R p ln tl)(h':LnD n R p' ln' tl'):p=p'∧ln=ln':=by
 have e:=h.ln.unique h'.ln;have e2:=h.eq.symm.trans h'.eq
 have e3:bl p=bl p':=by
  have:=congrArg Cn.b e
  rw[ZB,ZB] at this;omega
 obtain⟨rfl,e4⟩:=Qwo e2 e3;refine⟨rfl,?_⟩;rcases XK e4 with ⟨d,h1,h2⟩ | ⟨d,h1,h2⟩
 ·exact (Qiu e4 h'.nol h.til ⟨d,h1,h2⟩).1
 ·exact (Qiu e4.symm h.nol h'.til ⟨d,h1,h2⟩).1.symm
theorem Qiv {u n col:Int}{R p ln tl:List Int}{c:Cn}{er:Value}(hu:1≤u∧u≤3)(D:LnD n R p ln tl)(hc:0≤col∧col≤(cnt ln).of u)(h:Q3 u ((cnt p).of u+col) R c er):∃ c',Q3 u col ln c' er:=by
 have hR:=D.eq
 have hin:¬ ((cnt p).of u+col<0∨(cnt R).of u<(cnt p).of u+col):=by
  rw[hR,Qp,Qp]
  have:=QJ p u
  have:=QJ tl u
  omega
 rcases h.2.2 (by omega) hin with ⟨rfl,hp⟩ | ⟨rfl,rfl,hno⟩
 ·rw[hR] at hp;obtain⟨d,q,e1,rfl,hd⟩:=XN rfl hc.1 hu hp
  have key:∃ x,ln=d++x:=by
   rcases XK e1 with ⟨x,h1,h2⟩ | ⟨x,h1,h2⟩
   ·have:(cnt x).of u=0:=by
     have:=QJ x u
     rw[h1,Qp] at hd;omega
    have h3:x=[]:=by
     have:=Y5 x hu
     exact List.length_eq_zero_iff.1 (by omega)
    subst h3
    exact⟨[],by rw[h1,Wam,Wam]⟩
   ·exact⟨x,h1⟩
  obtain⟨x,hx⟩:=key
  exact⟨cnt d,Pl.ahead hu ⟨d,x,hx,hd,rfl⟩⟩
 ·refine⟨Cn.zero,fun e=>by omega,fun _ e=>by omega,fun _ _=>.inr ⟨rfl,rfl,?_⟩⟩;rintro c' ⟨d,x,e1,e2,rfl⟩;refine hno (cnt (p++d)) ⟨p++d,x++tl,?_,?_,rfl⟩
  ·rw[hR,e1];simp
  ·rw[Qp,e2]
def YN (u at_:Int)(R:List Int)(l col:Int)(er:Value):Prop :=
 ∃ c,Q3 u at_ R c er∧(er=.nilIface→∃ lc,Ln c.l R lc∧l=c.l∧col=c.of u-lc.of u)∧(er≠.nilIface→l=0∧col=0)
theorem YN.unique {u at_ l col l' col':Int}{R:List Int}{er er':Value}(h:YN u at_ R l col er)(h':YN u at_ R l' col' er'):l=l'∧col=col'∧er=er':=by
 obtain⟨c,h1,h2,h3⟩:=h;obtain⟨c',k1,k2,k3⟩:=h';obtain⟨rfl,rfl⟩:=h1.unique k1
 by_cases e:er=.nilIface
 ·obtain⟨lc,a1,a2,a3⟩:=h2 e;obtain⟨lc',b1,b2,b3⟩:=k2 e;obtain rfl:=a1.unique b1
  exact⟨a2.trans b2.symm,a3.trans b3.symm,rfl⟩
 ·exact⟨(h3 e).1.trans (k3 e).1.symm,(h3 e).2.trans (k3 e).2.symm,rfl⟩
def Quc (u at_:Int)(R:List Int)(w:World)(e:Ending)(w':World):Prop:=Below w.heap.size w w'∧∃ l col er,e=.returned (.tuple #[.agg #[.int .i64 l,.int .i64 col],er])∧YN u at_ R l col er
def YO (u n col:Int)(R:List Int)(x:Int)(er:Value):Prop :=
 ((u<1∨3<u)→x=0∧er=errno 1)∧(¬ (u<1∨3<u)→(n<0∨(cnt R).l<n)→x=0∧er=errno 2) ∧
 (¬ (u<1∨3<u)→¬ (n<0∨(cnt R).l<n)→∃ p ln tl,LnD n R p ln tl∧((col<0∨(cnt ln).of u<col)→x=0∧er=errno 2) ∧
  (¬ (col<0∨(cnt ln).of u<col)→∃ c,Q3 u col ln c er∧(er=.nilIface→x=(cnt p).of u+col)∧(er≠.nilIface→x=0)))
theorem YO.unique {u n col x x':Int}{R:List Int}{er er':Value}(h:YO u n col R x er)(h':YO u n col R x' er'):x=x'∧er=er':=by
 obtain⟨h1,h2,h3⟩:=h;obtain⟨k1,k2,k3⟩:=h'
 by_cases hu:u<1∨3<u
 ·exact⟨(h1 hu).1.trans (k1 hu).1.symm,(h1 hu).2.trans (k1 hu).2.symm⟩
 ·by_cases hn:n<0∨(cnt R).l<n
  ·exact⟨(h2 hu hn).1.trans (k2 hu hn).1.symm,(h2 hu hn).2.trans (k2 hu hn).2.symm⟩
  ·obtain⟨p,ln,tl,D,a1,a2⟩:=h3 hu hn;obtain⟨p',ln',tl',D',b1,b2⟩:=k3 hu hn;obtain⟨rfl,rfl⟩:=D.unique D'
   by_cases hc:col<0∨(cnt ln).of u<col
   ·exact⟨(a1 hc).1.trans (b1 hc).1.symm,(a1 hc).2.trans (b1 hc).2.symm⟩
   ·obtain⟨c,c1,c2,c3⟩:=a2 hc;obtain⟨c',d1,d2,d3⟩:=b2 hc;obtain⟨-,rfl⟩:=c1.unique d1
    by_cases e:er=.nilIface
    ·exact⟨(c2 e).trans (d2 e).symm,rfl⟩
    ·exact⟨(c3 e).trans (d3 e).symm,rfl⟩
def Qud (u n col:Int)(R:List Int)(w:World)(e:Ending)(w':World):Prop:=Below w.heap.size w w'∧∃ x er,e=.returned (.tuple #[.int .i64 x,er])∧YO u n col R x er
section
attribute [local go_sem] Cn.v_eq
theorem Qiw {p:Nat}{t:RT}{w:World}{u at_:Int}(h:AtR w p t)(hg:Good t) :
  Calls prog 159 #[.pointer (some ⟨p,0,none⟩),.int .i64 u,.int .i64 at_] w (Quc u at_ t.runes w):=by
 have HA:=Hm (fun w1 (hb:Below w.heap.size w w1)=>Jt (u:=u) (at_:=at_) (h.below hb) hg);have HL:=Hm (fun n w1 (hb:Below w.heap.size w w1)=>Qin (n:=n) (h.below hb) hg);have HTL:Hd (t.runes.length≤8000):=⟨by have:=QB t.runes;have:=hg.sz;omega⟩;clear h hg;go_enter func159,ntmps159
 go_wp2_with fail;refine (HA.o _ (Qb (Wac _ _) _)).mono ?_;rintro e w1 ⟨hb,c,er,rfl,hr⟩;have hR1:Blk w1 w.heap.size 129 #[.int .i64 0,.int .i64 0]:=(Blk.new w 129 _).below hb (by simp);have HB:=Hm (Qa (Qb (Wac _ _) _) hb);have HR1:=Hm hR1;have r0:=hR1.cell 0;have r1:=hR1.cell 1;have rf:=hR1.frozen;have rl:=hR1.lt;simp only[Wab,Waa,Wae] at r0 r1;have hcs:=JH hr;have HRR:=Hm hr;clear hb hr hR1;rcases hcs with ⟨rfl,hp,-,-⟩ | ⟨k,rfl,rfl,hk,hno⟩
 ·have HP:=Hm hp;have hcl:=hp.l;have HCL:=Hm hcl;have hco:=hp.of_le HTL.o u;clear hp hcl;go_wp2_with fail;refine (HL.o _ _ (Qb HB.o _)).mono ?_;rintro e w2 ⟨hb2,lc,er,rfl,hr2⟩;obtain⟨rfl,hln⟩:=hr2.2 (by have:=HCL.o;omega);have hlo:=hln.of_le HTL.o u;have HLN:=Hm hln;have HB2:=Hm (Qa (Qb HB.o _) hb2);have hc2:Qg w2 w1.heap.size c:=Qg.below (Wbc w1 _) hb2 (by simp);have hR2:Blk w2 w.heap.size 129 #[.int .i64 0,.int .i64 0]:=(HR1.o.alloc _).below hb2 (by simp;omega);have hne:w.heap.size≠w1.heap.size:=by omega
  clear r0 r1 rf rl;obtain⟨q0,q1,q2,q3⟩:=hc2.cells;have ql:=hc2.lt;have r0:=hR2.cell 0;have r1:=hR2.cell 1;have rf:=hR2.frozen;have rl:=hR2.lt;simp only[Wab,Waa,Wae] at r0 r1;have HR2:=Hm hR2;have HC2:=Hm hc2;clear hb2 hr2 hln hc2 hR2;have hl2:Qg (w2.alloc (.cells #[.int .i64 lc.b,.int .i64 lc.h,.int .i64 lc.r,.int .i64 lc.l] 125)) w2.heap.size lc:=Wbc w2 _;have HLW:=Hm hl2;have HCW:Hd (Qg (w2.alloc (.cells #[.int .i64 lc.b,.int .i64 lc.h,.int .i64 lc.r,.int .i64 lc.l] 125)) w1.heap.size c):=⟨HC2.o.below (Qb (Wac _ _) _) HC2.o.lt⟩;have HRW:Hd (Blk (w2.alloc (.cells #[.int .i64 lc.b,.int .i64 lc.h,.int .i64 lc.r,.int .i64 lc.l] 125)) w.heap.size 129 #[.int .i64 0,.int .i64 0]):=⟨HR2.o.alloc _⟩;have HBW:=Hm (Qb HB2.o (.cells #[.int .i64 lc.b,.int .i64 lc.h,.int .i64 lc.r,.int .i64 lc.l] 125));have HNE:Hd (w1.heap.size≠w.heap.size∧w2.heap.size≠w.heap.size):=⟨by omega,by omega⟩;clear hl2;go_wp2_with fail;generalize w2.alloc (.cells #[.int .i64 lc.b,.int .i64 lc.h,.int .i64 lc.r,.int .i64 lc.l] 125)=wc at HLW HCW HRW HBW ⊢;have HS0:Hd (SpS wc w.heap.size wc):=⟨Only.refl _ _,_,_,HRW.o⟩;generalize hg1:w1.heap.size=g1 at *;generalize hg2:w2.heap.size=g2 at *;generalize hB:w.heap.size=B at *;clear r0 r1 rf rl q0 q1 q2 q3 ql hne;obtain⟨q0,q1,q2,q3⟩:=HCW.o.cells;obtain⟨l0,l1,l2,l3⟩:=HLW.o.cells
  go_region_held3 (fun w'=>SpS wc B w'∧w'.cell? ⟨g1,0,none⟩=some (.int .i64 c.b)∧w'.cell? ⟨g1,1,none⟩=some (.int .i64 c.h)∧w'.cell? ⟨g1,2,none⟩=some (.int .i64 c.r)∧w'.cell? ⟨g1,3,none⟩=some (.int .i64 c.l)∧w'.cell? ⟨g2,0,none⟩=some (.int .i64 lc.b)∧w'.cell? ⟨g2,1,none⟩=some (.int .i64 lc.h)∧w'.cell? ⟨g2,2,none⟩=some (.int .i64 lc.r)∧w'.cell? ⟨g2,3,none⟩=some (.int .i64 lc.l)∧w'.cell? ⟨B,0,none⟩=some (cv w' B 0)∧w'.cell? ⟨B,1,none⟩=some (cv w' B 1)∧(∀ i,w'.frozen? ⟨B,i,none⟩=false)∧B<w'.heap.size)
   (first | exact (Qc0 HCW.o HLW.o HNE.o.1 HNE.o.2 HS0.o.drew) | exact (Qc0 HCW.o HLW.o HNE.o.1 HNE.o.2 (SpS.call (SpX.sp (by assumption)) (by assumption))) | exact (Qc0 HCW.o HLW.o HNE.o.1 HNE.o.2 (SpS.store (SpX.sp (by assumption)) _ _)) | assumption)
   (first
    | (go_at_call_of 213 (c.b);refine (QC c u _).mono ?_;rintro e w' ⟨rfl,hb'⟩)
    | (go_at_call_of 213 (lc.b);refine (QC lc u _).mono ?_;rintro e w' ⟨rfl,hb'⟩))
  all_goals
   have hfin:=SpS.store1 (SpS.call (SpS.call HS0.o.drew (by assumption)) hb') (.int .i64 c.l) (.int .i64 (c.of u-lc.of u));have HFIN:=Hm hfin;clear hfin;have hw3:IntKind.i64.wrap (c.of u-lc.of u)=c.of u-lc.of u:=by rw[Waw]<;>omega
   rw[hw3];generalize ((w'.setCell ⟨B,0,none⟩ (.int .i64 c.l)).setCell ⟨B,1,none⟩ (.int .i64 (c.of u-lc.of u)))=wf at HFIN ⊢;have f0:=HFIN.o.2.cell 0;have f1:=HFIN.o.2.cell 1;simp only[Wab,Waa,Wae] at f0 f1;clear hw3 hb';go_wp2_with fail;refine Waz (v:=.tuple #[.agg #[.int .i64 c.l,.int .i64 (c.of u-lc.of u)],.nilIface]) (by simp[results,results159,go_sem,f0,f1]) rfl ?_;refine⟨?_,_,_,_,rfl,c,HRR.o,fun _=>⟨lc,HLN.o,rfl,rfl⟩,fun h=>absurd rfl h⟩;subst hB;exact HBW.o.trans (HFIN.o.1.below HBW.o.size (fun k hk e=>by omega))
 ·have HK:=Hm hk;have HNO:=Hm hno;clear hk hno;unfold errno;go_wp2_with fail;have hset:=(HR1.o.set_ 0 (.int .i64 0)).set_ 1 (.int .i64 0);have hbl:Below w.heap.size w ((w1.setCell ⟨w.heap.size,0,none⟩ (.int .i64 0)).setCell ⟨w.heap.size,1,none⟩ (.int .i64 0)):=(HB.o.setCell (p:=⟨w.heap.size,0,none⟩) (Wak _) _).setCell (p:=⟨w.heap.size,1,none⟩) (Wak _) _;have HSET:=Hm hset;have HBL:=Hm hbl;clear hset hbl;have f0:=(HSET.o.alloc (.cells #[.int .i64 Cn.zero.b,.int .i64 Cn.zero.h,.int .i64 Cn.zero.r,.int .i64 Cn.zero.l] 125)).cell 0;have f1:=(HSET.o.alloc (.cells #[.int .i64 Cn.zero.b,.int .i64 Cn.zero.h,.int .i64 Cn.zero.r,.int .i64 Cn.zero.l] 125)).cell 1;simp only[List.setIfInBounds_toArray,List.set_cons_zero,List.set_cons_succ,Wab,Waa,Wae] at f0 f1;refine Waz (v:=.tuple #[.agg #[.int .i64 0,.int .i64 0],errno k]) (by simp[results,results159,go_sem,f0,f1,errno]) rfl ?_
  exact⟨Qb HBL.o _,_,_,_,rfl,Cn.zero,HRR.o,(fun h=>by cases h),fun _=>⟨rfl,rfl⟩⟩
end
end
section
open Go.RowKit Go.Sort
theorem Qu2 {u:Int}(hu:1≤u∧u≤3):(cnt [10]).of u=1:=by
 have h:u=1∨u=2∨u=3:=by omega
 rcases h with rfl | rfl | rfl<;>decide
theorem LnD.next {u n:Int}{R p ln tl:List Int}{nx:Cn}(hu:1≤u∧u≤3)(D:LnD n R p ln tl)(hn:n<(cnt R).l)(h:Ln (n+1) R nx):nx.of u-1=(cnt p).of u+(cnt ln).of u:=by
 have hR:=D.eq;rcases D.til with rfl | ⟨t,rfl⟩
 ·rw[hR,QZ,QZ,D.cn,D.nol,QQ] at hn;change n<n+(0+0) at hn;omega
 ·have e:Ln (n+1) R (cnt (p++ln++[10])):=⟨p++ln++[10],t,by rw[hR];simp,by rw[QZ,QZ,D.cn,D.nol,XJ,if_pos rfl];omega,rfl,.inr ⟨p++ln,rfl⟩⟩;rw[h.unique e,Qp,Qp,Qu2 hu];omega
theorem LnD.last {u n:Int}{R p ln tl:List Int}(D:LnD n R p ln tl)(hn:¬ n<(cnt R).l):(cnt R).of u=(cnt p).of u+(cnt ln).of u:=by
 have hR:=D.eq;rcases D.til with rfl | ⟨t,rfl⟩
 ·rw[hR,Qp,Qp,QQ,ZC];omega
 ·exfalso
  have:=Yb t
  rw[hR,QZ,QZ,D.cn,D.nol,show ((10:Int) :: t)=[10]++t from rfl,QZ,XJ,if_pos rfl] at hn;omega
section
attribute [local go_sem] Cn.v_eq Qcu
theorem Qi4 {p:Nat}{t:RT}{w:World}{u n col:Int}(h:AtR w p t)(hg:Good t) :
  Calls prog 148 #[.pointer (some ⟨p,0,none⟩),.int .i64 u,.agg #[.int .i64 n,.int .i64 col]] w (Qud u n col t.runes w):=by
 by_cases hu:1≤u∧u≤3
 ·have HA:=Hm (fun at_ w1 (hb:Below w.heap.size w w1)=>Jt (u:=u) (at_:=at_) (h.below hb) hg);have HL:=Hm (fun n w1 (hb:Below w.heap.size w w1)=>Qin (n:=n) (h.below hb) hg);have HC:=Hm (fun w1 (hb:Below w.heap.size w w1)=>YB (h.below hb));have HU:=Hm hu;have htl:t.runes.length≤8000:=by have:=QB t.runes;have:=hg.sz;omega
  have i1:¬ u<1:=by omega
  have i2:¬ 3<u:=by omega
  obtain⟨tot,htot⟩:∃ x,x=cnt t.runes:=⟨_,rfl⟩;have htb:tot.of u≤32000:=by rw[htot];have:=of_le (rs:=t.runes) (n:=8000) htl u;omega
  have htn:0≤tot.of u:=by rw[htot];exact QJ _ _
  have hlb:tot.l≤32000:=by rw[htot];have:=J8 (rs:=t.runes) (k:=8000) htl;omega
  have HTOT:=Hm htot;have HTL:=Hm htl;obtain⟨vt,hvt⟩:∃ x,x=tot.of u:=⟨_,rfl⟩;have HVT:=Hm hvt;rw[← hvt] at htb htn;clear h hg hu htot hvt htl;go_enter func148,ntmps148
  go_wp2_with fail;have hB0:Blk (w.alloc (.cells #[.int .i64 n,.int .i64 col] 129)) w.heap.size 129 #[.int .i64 n,.int .i64 col]:=Blk.new _ _ _;refine (HL.o n _ (Qb (Wac _ _) _)).mono ?_;rintro e w1 ⟨hb,lc2,er,rfl,hr⟩;have HB1:=Hm (Qa (Qb (Wac _ _) _) hb);have HS1:=Hm (hB0.below hb hB0.lt);have HRL:=Hm hr;clear hb hr hB0
  by_cases hn:n<0∨tot.l<n
  ·obtain⟨rfl,rfl⟩:=HRL.o.1 (by rw[← HTOT.o];exact hn);have HN:=Hm hn;clear hn;unfold errno;go_wp2_with fail;go_ret2
   exact⟨Qb HB1.o _,0,errno 2,rfl,fun h=>absurd h (by have:=HU.o;omega),fun _ _=>⟨rfl,rfl⟩,fun _ h=>absurd (by have:=HN.o;rw[← HTOT.o];exact this) h⟩
  ·have HNN:Hd (¬ (n<0∨(cnt t.runes).l<n)):=⟨by rw[← HTOT.o];exact hn⟩;obtain⟨rfl,hln⟩:=HRL.o.2 HNN.o;obtain⟨pp,ln,tl,D,hlc⟩:=Qub hln;have HD:=Hm D;have HLC:=Hm hlc;obtain⟨vl,hvl⟩:∃ x,x=lc2.of u:=⟨_,rfl⟩;obtain⟨le,hle⟩:∃ x,x=(cnt ln).of u:=⟨_,rfl⟩;have HVL:=Hm hvl;have HLE:=Hm hle;have hvl0:0≤vl:=by rw[hvl,hlc];exact QJ _ _
   have hle0:0≤le:=by rw[hle];exact QJ _ _
   have hvb:vl+le≤32000:=by
    have h1:=D.eq;have h2:(cnt t.runes).of u=(cnt pp).of u+((cnt ln).of u+(cnt tl).of u):=by rw[h1,Qp,Qp]
    have:=QJ tl u
    have h3:=HVT.o;rw[HTOT.o] at h3;rw[hvl,hlc,hle];omega
   have hn0:0≤n:=by omega
   have hn1:n≤tot.l:=by omega
   clear hn hln D hlc hvl hle;go_upto_region 6 with fail
   have hl1:Qg (w1.alloc (.cells #[.int .i64 lc2.b,.int .i64 lc2.h,.int .i64 lc2.r,.int .i64 lc2.l] 125)) w1.heap.size lc2:=Wbc w1 _;have HS2:=Hm (HS1.o.alloc (.cells #[.int .i64 lc2.b,.int .i64 lc2.h,.int .i64 lc2.r,.int .i64 lc2.l] 125));have HB2:=Hm (Qb HB1.o (.cells #[.int .i64 lc2.b,.int .i64 lc2.h,.int .i64 lc2.r,.int .i64 lc2.l] 125));have HL2:=Hm hl1;generalize w1.alloc (.cells #[.int .i64 lc2.b,.int .i64 lc2.h,.int .i64 lc2.r,.int .i64 lc2.l] 125)=w2 at HS2 HB2 HL2 ⊢;generalize w1.heap.size=y at HL2 ⊢;clear hl1 HS1 HB1 w1
   go_upto_region 7 with (first
    | (go_at_call 209;refine (HC.o _ HB2.o).mono ?_;rintro e w3 ⟨rfl,hb3⟩;rw[← HTOT.o];have HB3:=Hm (Qa HB2.o hb3);have HS3:=Hm (HS2.o.below hb3 HS2.o.lt);have HL3:=Hm (HL2.o.below hb3 HL2.o.lt);clear hb3)
    | (go_at_call 213;refine (QC tot u _).mono ?_;rintro e w4 ⟨rfl,hb4⟩;rw[← HVT.o];have HB4:=Hm (Qa HB3.o hb4);have HS4:=Hm (HS3.o.below hb4 HS3.o.lt);have HL4:=Hm (HL3.o.below hb4 HL3.o.lt);clear hb4))
   have s0:=HS4.o.cell 0;have s1:=HS4.o.cell 1;simp only[Wab,Waa,Wae] at s0 s1;obtain⟨l0,l1,l2,l3⟩:=HL4.o.cells;have ks0:=cell_regrown s0;have ks1:=cell_regrown s1;have kl0:=cell_regrown l0;have kl1:=cell_regrown l1;have kl2:=cell_regrown l2;have kl3:=cell_regrown l3;have hqc:∀ d os,Calls prog 209 #[.pointer (some ⟨p,0,none⟩)] (grow (redrawn w4 d) os) fun e w''=>e=.returned (.agg #[.int .i64 tot.b,.int .i64 tot.h,.int .i64 tot.r,.int .i64 tot.l])∧∃ p:Regrown,w''=grow (redrawn w4 p.d) p.os:=fun d os=>by rw[HTOT.o];exact Calls.regrown_of (HC.o _ (Qa HB4.o (below_regrown w4 d os)))
   refine wp_region_quiet_below (by kernel_rfl) (by kernel_rfl) ?_
   repeat (quiet_step (exact hqc _ _))
   refine wpQuiet_nil ?_;rintro _ ⟨⟨dq5,oq5⟩,rfl⟩;have hbg5:=below_regrown w4 dq5 oq5;have HB5:=Hm (Qa HB4.o hbg5);have HS5:=Hm (HS4.o.below hbg5 HS4.o.lt);have HL5:=Hm (HL4.o.below hbg5 HL4.o.lt);generalize grow (redrawn w4 dq5) oq5=w5 at HB5 HS5 HL5 ⊢;clear hbg5 ks0 ks1 kl0 kl1 kl2 kl3 hqc s0 s1 l0 l1 l2 l3
   by_cases hnt:n<tot.l
   ·have s0:=HS5.o.cell 0;have sl:=HS5.o.lt;simp only[Wab,Waa] at s0;have HNT:=Hm hnt;go_wp2_with fail;refine (HL.o (n+1) _ HB5.o).mono ?_;rintro e w6 ⟨hb6,nx,er6,rfl,hr6⟩;obtain⟨rfl,hln6⟩:=hr6.2 (by rw[← HTOT.o];omega);have HEE:Hd (nx.of u-1=vl+le):=⟨by rw[HVL.o,HLC.o,HLE.o];exact HD.o.next HU.o (by rw[← HTOT.o];exact HNT.o) hln6⟩;have HB6:=Hm (Qa HB5.o hb6);have HS6:=Hm (HS5.o.below hb6 HS5.o.lt);have HL6:=Hm (HL5.o.below hb6 HL5.o.lt);clear hb6 hr6 hln6 s0 sl;go_upto_region 10 with (go_at_call 213;refine (QC nx u _).mono ?_;rintro e w7 ⟨rfl,hb7⟩;have HB7:=Hm (Qa (Qb HB6.o _) hb7);have HS7:=Hm ((HS6.o.alloc _).below hb7 (by simp;have:=HS6.o.lt;omega));have HL7:=Hm (Qg.below (Blk.alloc (t:=125) HL6.o _) hb7 (by simp;have:=HL6.o.lt;omega));have hxx:nx.of u≤33000:=(by have:=HEE.o;omega);have hxy:1≤nx.of u:=(by have:=HEE.o;omega);clear hb7)
    generalize nx.of u=vn at *;have hEW:(vn-1)=vl+le:=HEE.o;have hw1:IntKind.i64.wrap ((vn-1)-vl)=le:=by rw[hEW,Waw]<;>omega
    clear hEW
    by_cases hc0:col<0
    ·have HCB:Hd (col<0∨le<col):=⟨.inl hc0⟩;have d1:decide (col<0)=true:=decide_eq_true hc0;clear hc0;go_wp2_with fail
     obtain⟨s0,s1⟩:w7.cell? ⟨w.heap.size,0,none⟩=some (.int .i64 n)∧w7.cell? ⟨w.heap.size,1,none⟩=some (.int .i64 col):=by
      have s0:=HS7.o.cell 0;have s1:=HS7.o.cell 1;simp only[Wab,Waa,Wae] at s0 s1
      exact⟨s0,s1⟩
     go_quiet (fail)
     go_wp2_with fail;go_ret2
     exact⟨Qo nq HB7.o,0,errno 2,rfl,fun h=>absurd h (by have:=HU.o;omega),fun _ h=>absurd h HNN.o,fun _ _=>⟨_,_,_,HD.o,fun _=>⟨rfl,rfl⟩,fun h=>absurd (by have:=HCB.o;have:=HLE.o;omega) h⟩⟩
    ·by_cases hc1:le<col
     ·have HCB:Hd (col<0∨le<col):=⟨.inr hc1⟩;have d1:decide (col<0)=false:=decide_eq_false hc0;go_wp2_with fail;have s0:=HS7.o.cell 0;have s1:=HS7.o.cell 1;simp only[Wab,Waa,Wae] at s0 s1;obtain⟨l0,l1,l2,l3⟩:=HL7.o.cells;have ks0:=cell_regrown s0;have ks1:=cell_regrown s1;have kl0:=cell_regrown l0;have kl1:=cell_regrown l1;have kl2:=cell_regrown l2;have kl3:=cell_regrown l3;have hqc:∀ d os,Calls prog 213 #[.agg #[.int .i64 lc2.b,.int .i64 lc2.h,.int .i64 lc2.r,.int .i64 lc2.l],.int .i64 u] (grow (redrawn w7 d) os) fun e w''=>e=.returned (.int .i64 vl)∧∃ p:Regrown,w''=grow (redrawn w7 p.d) p.os:=fun d os=>by rw[HVL.o];exact Calls.regrown_of (QC lc2 u _)
      refine wp_region_quiet_below (by kernel_rfl) (by kernel_rfl) ?_
      repeat (quiet_step (exact hqc _ _))
      refine wpQuiet_nil ?_;rintro _ ⟨⟨dqa,oqa⟩,rfl⟩;have hbga:=below_regrown w7 dqa oqa;have HBa:=Hm (Qa HB7.o hbga);have HSa:=Hm (HS7.o.below hbga HS7.o.lt);have HLa:=Hm (HL7.o.below hbga HL7.o.lt);generalize grow (redrawn w7 dqa) oqa=wa at HBa HSa HLa ⊢;clear hbga ks0 ks1 kl0 kl1 kl2 kl3 hqc s0 s1 l0 l1 l2 l3;go_wp2_with fail;go_ret2
      exact⟨HBa.o,0,errno 2,rfl,fun h=>absurd h (by have:=HU.o;omega),fun _ h=>absurd h HNN.o,fun _ _=>⟨_,_,_,HD.o,fun _=>⟨rfl,rfl⟩,fun h=>absurd (by have:=HCB.o;have:=HLE.o;omega) h⟩⟩
     ·have d1:decide (col<0)=false:=decide_eq_false hc0;have HCC:Hd (0≤col∧col≤le):=⟨by omega,by omega⟩;have hw2:IntKind.i64.wrap (vl+col)=vl+col:=by rw[Waw]<;>omega
      go_wp2_with fail;have s0:=HS7.o.cell 0;have s1:=HS7.o.cell 1;simp only[Wab,Waa,Wae] at s0 s1;obtain⟨l0,l1,l2,l3⟩:=HL7.o.cells;have ks0:=cell_regrown s0;have ks1:=cell_regrown s1;have kl0:=cell_regrown l0;have kl1:=cell_regrown l1;have kl2:=cell_regrown l2;have kl3:=cell_regrown l3;have hqc:∀ d os,Calls prog 213 #[.agg #[.int .i64 lc2.b,.int .i64 lc2.h,.int .i64 lc2.r,.int .i64 lc2.l],.int .i64 u] (grow (redrawn w7 d) os) fun e w''=>e=.returned (.int .i64 vl)∧∃ p:Regrown,w''=grow (redrawn w7 p.d) p.os:=fun d os=>by rw[HVL.o];exact Calls.regrown_of (QC lc2 u _)
      refine wp_region_quiet_below (by kernel_rfl) (by kernel_rfl) ?_
      repeat (quiet_step (exact hqc _ _))
      refine wpQuiet_nil ?_;rintro _ ⟨⟨dqa,oqa⟩,rfl⟩;have hbga:=below_regrown w7 dqa oqa;have HBa:=Hm (Qa HB7.o hbga);have HSa:=Hm (HS7.o.below hbga HS7.o.lt);have HLa:=Hm (HL7.o.below hbga HL7.o.lt);generalize grow (redrawn w7 dqa) oqa=wa at HBa HSa HLa ⊢;clear hbga ks0 ks1 kl0 kl1 kl2 kl3 hqc s0 s1 l0 l1 l2 l3;go_wp2_with fail;have s0:=HSa.o.cell 0;have s1:=HSa.o.cell 1;simp only[Wab,Waa,Wae] at s0 s1;obtain⟨l0,l1,l2,l3⟩:=HLa.o.cells;have ks0:=cell_regrown s0;have ks1:=cell_regrown s1;have kl0:=cell_regrown l0;have kl1:=cell_regrown l1;have kl2:=cell_regrown l2;have kl3:=cell_regrown l3;have hqc:∀ d os,Calls prog 213 #[.agg #[.int .i64 lc2.b,.int .i64 lc2.h,.int .i64 lc2.r,.int .i64 lc2.l],.int .i64 u] (grow (redrawn wa d) os) fun e w''=>e=.returned (.int .i64 vl)∧∃ p:Regrown,w''=grow (redrawn wa p.d) p.os:=fun d os=>by rw[HVL.o];exact Calls.regrown_of (QC lc2 u _)
      refine wp_region_quiet_below (by kernel_rfl) (by kernel_rfl) ?_
      repeat (quiet_step (exact hqc _ _))
      refine wpQuiet_nil ?_;rintro _ ⟨⟨dqb,oqb⟩,rfl⟩;have hbgb:=below_regrown wa dqb oqb;have HBb:=Hm (Qa HBa.o hbgb);have HSb:=Hm (HSa.o.below hbgb HSa.o.lt);have HLb:=Hm (HLa.o.below hbgb HLa.o.lt);generalize grow (redrawn wa dqb) oqb=wb at HBb HSb HLb ⊢;clear hbgb ks0 ks1 kl0 kl1 kl2 kl3 hqc s0 s1 l0 l1 l2 l3;go_wp2_with fail;refine (HA.o (vl+col) _ HBb.o).mono ?_;rintro e w9 ⟨hb9,c9,er9,rfl,hr9⟩;have HB9:=Hm (Qa HBb.o hb9);have hcs:=JH hr9
      have HAL:Hd (∃ c',Q3 u col ln c' er9):=⟨by
       rw[HVL.o,HLC.o] at hr9;exact Qiv HU.o HD.o (by have:=HCC.o;have:=HLE.o;omega) hr9⟩
      clear hb9 hr9;rcases hcs with ⟨rfl,-⟩ | ⟨k,rfl,rfl,-⟩
      ·go_wp2_with fail;go_ret2;obtain⟨c',hc'⟩:=HAL.o
       exact⟨Qb HB9.o _,_,.nilIface,rfl,fun h=>absurd h (by have:=HU.o;omega),fun _ h=>absurd h HNN.o,fun _ _=>⟨_,_,_,HD.o,fun h=>absurd h (by have:=HCC.o;have:=HLE.o;omega),fun _=>⟨c',hc',fun _=>by rw[HVL.o,HLC.o],fun h=>absurd rfl h⟩⟩⟩
      ·unfold errno;go_wp2_with fail;go_ret2;obtain⟨c',hc'⟩:=HAL.o
       exact⟨Qb HB9.o _,_,errno k,rfl,fun h=>absurd h (by have:=HU.o;omega),fun _ h=>absurd h HNN.o,fun _ _=>⟨_,_,_,HD.o,fun h=>absurd h (by have:=HCC.o;have:=HLE.o;omega),fun _=>⟨c',hc',(fun h=>by cases h),fun _=>rfl⟩⟩⟩
   ·have HEE:Hd (vt=vl+le):=⟨by rw[HVL.o,HLC.o,HLE.o,HVT.o,HTOT.o];exact HD.o.last (by rw[← HTOT.o];exact hnt)⟩;have hEW:vt=vl+le:=HEE.o;have hw1:IntKind.i64.wrap (vt-vl)=le:=by rw[hEW,Waw]<;>omega
    clear hEW
    by_cases hc0:col<0
    ·have HCB:Hd (col<0∨le<col):=⟨.inl hc0⟩;have d1:decide (col<0)=true:=decide_eq_true hc0;clear hc0;go_wp2_with fail
     obtain⟨s0,s1⟩:w5.cell? ⟨w.heap.size,0,none⟩=some (.int .i64 n)∧w5.cell? ⟨w.heap.size,1,none⟩=some (.int .i64 col):=by
      have s0:=HS5.o.cell 0;have s1:=HS5.o.cell 1;simp only[Wab,Waa,Wae] at s0 s1
      exact⟨s0,s1⟩
     go_quiet (fail)
     go_wp2_with fail;go_ret2
     exact⟨Qo nq HB5.o,0,errno 2,rfl,fun h=>absurd h (by have:=HU.o;omega),fun _ h=>absurd h HNN.o,fun _ _=>⟨_,_,_,HD.o,fun _=>⟨rfl,rfl⟩,fun h=>absurd (by have:=HCB.o;have:=HLE.o;omega) h⟩⟩
    ·by_cases hc1:le<col
     ·have HCB:Hd (col<0∨le<col):=⟨.inr hc1⟩;have d1:decide (col<0)=false:=decide_eq_false hc0;go_wp2_with fail;have s0:=HS5.o.cell 0;have s1:=HS5.o.cell 1;simp only[Wab,Waa,Wae] at s0 s1;obtain⟨l0,l1,l2,l3⟩:=HL5.o.cells;have ks0:=cell_regrown s0;have ks1:=cell_regrown s1;have kl0:=cell_regrown l0;have kl1:=cell_regrown l1;have kl2:=cell_regrown l2;have kl3:=cell_regrown l3;have hqc:∀ d os,Calls prog 213 #[.agg #[.int .i64 lc2.b,.int .i64 lc2.h,.int .i64 lc2.r,.int .i64 lc2.l],.int .i64 u] (grow (redrawn w5 d) os) fun e w''=>e=.returned (.int .i64 vl)∧∃ p:Regrown,w''=grow (redrawn w5 p.d) p.os:=fun d os=>by rw[HVL.o];exact Calls.regrown_of (QC lc2 u _)
      refine wp_region_quiet_below (by kernel_rfl) (by kernel_rfl) ?_
      repeat (quiet_step (exact hqc _ _))
      refine wpQuiet_nil ?_;rintro _ ⟨⟨dqa,oqa⟩,rfl⟩;have hbga:=below_regrown w5 dqa oqa;have HBa:=Hm (Qa HB5.o hbga);have HSa:=Hm (HS5.o.below hbga HS5.o.lt);have HLa:=Hm (HL5.o.below hbga HL5.o.lt);generalize grow (redrawn w5 dqa) oqa=wa at HBa HSa HLa ⊢;clear hbga ks0 ks1 kl0 kl1 kl2 kl3 hqc s0 s1 l0 l1 l2 l3;go_wp2_with fail;go_ret2
      exact⟨HBa.o,0,errno 2,rfl,fun h=>absurd h (by have:=HU.o;omega),fun _ h=>absurd h HNN.o,fun _ _=>⟨_,_,_,HD.o,fun _=>⟨rfl,rfl⟩,fun h=>absurd (by have:=HCB.o;have:=HLE.o;omega) h⟩⟩
     ·have d1:decide (col<0)=false:=decide_eq_false hc0;have HCC:Hd (0≤col∧col≤le):=⟨by omega,by omega⟩;have hw2:IntKind.i64.wrap (vl+col)=vl+col:=by rw[Waw]<;>omega
      go_wp2_with fail;have s0:=HS5.o.cell 0;have s1:=HS5.o.cell 1;simp only[Wab,Waa,Wae] at s0 s1;obtain⟨l0,l1,l2,l3⟩:=HL5.o.cells;have ks0:=cell_regrown s0;have ks1:=cell_regrown s1;have kl0:=cell_regrown l0;have kl1:=cell_regrown l1;have kl2:=cell_regrown l2;have kl3:=cell_regrown l3;have hqc:∀ d os,Calls prog 213 #[.agg #[.int .i64 lc2.b,.int .i64 lc2.h,.int .i64 lc2.r,.int .i64 lc2.l],.int .i64 u] (grow (redrawn w5 d) os) fun e w''=>e=.returned (.int .i64 vl)∧∃ p:Regrown,w''=grow (redrawn w5 p.d) p.os:=fun d os=>by rw[HVL.o];exact Calls.regrown_of (QC lc2 u _)
      refine wp_region_quiet_below (by kernel_rfl) (by kernel_rfl) ?_
      repeat (quiet_step (exact hqc _ _))
      refine wpQuiet_nil ?_;rintro _ ⟨⟨dqa,oqa⟩,rfl⟩;have hbga:=below_regrown w5 dqa oqa;have HBa:=Hm (Qa HB5.o hbga);have HSa:=Hm (HS5.o.below hbga HS5.o.lt);have HLa:=Hm (HL5.o.below hbga HL5.o.lt);generalize grow (redrawn w5 dqa) oqa=wa at HBa HSa HLa ⊢;clear hbga ks0 ks1 kl0 kl1 kl2 kl3 hqc s0 s1 l0 l1 l2 l3;go_wp2_with fail;have s0:=HSa.o.cell 0;have s1:=HSa.o.cell 1;simp only[Wab,Waa,Wae] at s0 s1;obtain⟨l0,l1,l2,l3⟩:=HLa.o.cells;have ks0:=cell_regrown s0;have ks1:=cell_regrown s1;have kl0:=cell_regrown l0;have kl1:=cell_regrown l1;have kl2:=cell_regrown l2;have kl3:=cell_regrown l3;have hqc:∀ d os,Calls prog 213 #[.agg #[.int .i64 lc2.b,.int .i64 lc2.h,.int .i64 lc2.r,.int .i64 lc2.l],.int .i64 u] (grow (redrawn wa d) os) fun e w''=>e=.returned (.int .i64 vl)∧∃ p:Regrown,w''=grow (redrawn wa p.d) p.os:=fun d os=>by rw[HVL.o];exact Calls.regrown_of (QC lc2 u _)
      refine wp_region_quiet_below (by kernel_rfl) (by kernel_rfl) ?_
      repeat (quiet_step (exact hqc _ _))
      refine wpQuiet_nil ?_;rintro _ ⟨⟨dqb,oqb⟩,rfl⟩;have hbgb:=below_regrown wa dqb oqb;have HBb:=Hm (Qa HBa.o hbgb);have HSb:=Hm (HSa.o.below hbgb HSa.o.lt);have HLb:=Hm (HLa.o.below hbgb HLa.o.lt);generalize grow (redrawn wa dqb) oqb=wb at HBb HSb HLb ⊢;clear hbgb ks0 ks1 kl0 kl1 kl2 kl3 hqc s0 s1 l0 l1 l2 l3;go_wp2_with fail;refine (HA.o (vl+col) _ HBb.o).mono ?_;rintro e w9 ⟨hb9,c9,er9,rfl,hr9⟩;have HB9:=Hm (Qa HBb.o hb9);have hcs:=JH hr9
      have HAL:Hd (∃ c',Q3 u col ln c' er9):=⟨by
       rw[HVL.o,HLC.o] at hr9;exact Qiv HU.o HD.o (by have:=HCC.o;have:=HLE.o;omega) hr9⟩
      clear hb9 hr9;rcases hcs with ⟨rfl,-⟩ | ⟨k,rfl,rfl,-⟩
      ·go_wp2_with fail;go_ret2;obtain⟨c',hc'⟩:=HAL.o
       exact⟨Qb HB9.o _,_,.nilIface,rfl,fun h=>absurd h (by have:=HU.o;omega),fun _ h=>absurd h HNN.o,fun _ _=>⟨_,_,_,HD.o,fun h=>absurd h (by have:=HCC.o;have:=HLE.o;omega),fun _=>⟨c',hc',fun _=>by rw[HVL.o,HLC.o],fun h=>absurd rfl h⟩⟩⟩
      ·unfold errno;go_wp2_with fail;go_ret2;obtain⟨c',hc'⟩:=HAL.o
       exact⟨Qb HB9.o _,_,errno k,rfl,fun h=>absurd h (by have:=HU.o;omega),fun _ h=>absurd h HNN.o,fun _ _=>⟨_,_,_,HD.o,fun h=>absurd h (by have:=HCC.o;have:=HLE.o;omega),fun _=>⟨c',hc',(fun h=>by cases h),fun _=>rfl⟩⟩⟩
 ·have HU:=Hm hu;clear h hg
  by_cases i1:u<1
  ·clear hu;go_enter func148,ntmps148
   go_wp2_with fail;go_ret2
   exact⟨Qb (Wac _ _) _,0,errno 1,rfl,fun _=>⟨rfl,rfl⟩,fun h=>absurd (by have:=HU.o;omega) h,fun h=>absurd (by have:=HU.o;omega) h⟩
  ·have i2:3<u:=by omega
   clear hu;go_enter func148,ntmps148
   go_wp2_with fail;go_ret2
   exact⟨Qb (Wac _ _) _,0,errno 1,rfl,fun _=>⟨rfl,rfl⟩,fun h=>absurd (by have:=HU.o;omega) h,fun h=>absurd (by have:=HU.o;omega) h⟩
end
end
end Go.Proofs.YtckkgdmkfbkaoaaGreatDoor
