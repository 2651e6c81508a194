/- Texts of the proof. -/
import Derived.Test.YtckkgdmkfbkaoaaGreatDoorM21
import Derived.Sort.CutIn
import Derived.Stop.RegionWithIn
namespace Go.Proofs.YtckkgdmkfbkaoaaGreatDoor
open Go.Proofs.Tryz
set_option maxRecDepth 100000
set_option maxHeartbeats 32000000
set_option linter.all false
section
open Go.RowKit Go.Shelf Go.Sort
section
variable {n:Nat}{P:Program}{ops:Array Oper}{md:Region.Mode}{Q:Exit→Act→World→Prop}{l:Nat}
theorem Qtg {o:Oper}{a:Act}{K K':Act→World→Prop}{w:World}(hnd:∀ c,o.op≠.defer c)(h:∀ a w,K a w→K' a w)(hh:o.wp P a w K Q):o.wpIn (Fence.wide.inRound l) n P a w K' Q:=by
 unfold Oper.wp at hh;unfold Oper.wpIn;refine⟨fun _ _=>trivial,?_⟩;rw[Fence.inRound_round,Oper.semAt_some _ _ _ hnd];generalize (execOp a.eval o).run P w=r at *
 cases r with
 | ok x w' =>
  cases x<;>simp only[Oper.upon] at hh<;>simp only[Oper.uponIn]
  case value u=>exact h _ _ hh
  case skip=>exact h _ _ hh
  case defer d=>exact h _ _ hh
  case enter f args =>
   refine⟨fun hd=>absurd hd (by simp[Fence.inRound,Fence.wide]),CallsIn.inRound l ((callsIn_wide.2 hh).mono ?_)⟩;intro e w2 h2
   cases e<;>first | exact h _ _ h2 | exact h2
  case row row args=>exact⟨fun hd=>absurd hd (by simp[Fence.inRound,Fence.wide]),fun c cs _=>let ⟨v,w2,r,s⟩:=hh c cs;⟨v,w2,h _ _ r,stepsIn_wide.2 s⟩⟩
 | halt x w' =>
  cases x<;>simp only[Oper.upon] at hh<;>simp only[Oper.uponIn]
  all_goals first | exact hh | exact hh.elim
theorem Qil (hnd:∀ (i:Nat) (o:Oper),ops[i]?=some o→∀ c,o.op≠.defer c)(hno:¬ LetsOut Q) :
  ∀ (fuel:Nat) (listed:Array Bool) (a:Act) (w:World),wpAny P md ops Q fuel listed a w→wpAnyIn (Fence.wide.inRound l) n P md ops Q fuel listed a w
 | 0,_,_,_,h=>h
 | fuel+1,listed,_,_,h=>⟨h.1,fun i hi=>by
   have hh:=h.2 i hi;have ih:=fun a' w'=>Qil hnd hno fuel (listed.setIfInBounds i true) a' w'
   unfold wpOp at hh;unfold wpOpIn
   split
   ·rename_i ho;simp only[ho] at hh;exact ih _ _ hh
   ·rename_i o ho
    simp only[ho] at hh
    split
    ·rename_i hw
     simp only[hw,if_true] at hh;exact Qtg (hnd _ _ ho) ih (hh.resolve_right (fun e=>hno e.2))
    ·rename_i hw
     simp only[hw] at hh
     exact⟨fun _ _=>trivial,ih _ _ hh⟩⟩
theorem Qth {id:Nat}{S:World→Prop}{a:Act}{w:World}{ol:List Oper}(hm:P.follows .mixedOrders=true)(hnd:ol.all (fun o:Oper=>match o.op with | .defer _=>false | _=>true)=true)(hno:¬ LetsOut Q)
  (hS:S w.drew) (h:S w.drew→wpAnyH P .any ol.toArray Q S ol.toArray.size (Array.replicate ol.toArray.size false) a w.drew):(Code.region id ol.toArray true).wpIn (Fence.wide.inRound l) n P Q a w:=by
 refine wpIn_region_any hm (Qil ?_ hno _ _ _ _ (wpAny_of_held (S:=S) _ _ _ _ (h hS)));intro i o ho c hc;simp only[Wab] at ho
 have:=List.all_eq_true.1 hnd o (List.mem_of_getElem? ho)
 rw[hc] at this
 cases this
end
def Qa2 (n:Int)(R:List Int)(c:Cn)(er:Value):Prop :=
 ((n<0∨(cnt R).l<n)→c=Cn.zero∧er=errno 2)∧(¬ (n<0∨(cnt R).l<n)→er=.nilIface∧Ln n R c)
def J6 (n:Int)(R:List Int)(w:World)(e:Ending)(w':World):Prop :=
 Below w.heap.size w w'∧∃ c er,e=.returned (.tuple #[c.v,er])∧Qa2 n R c er
structure LnT (w wr:World)(n:Int):Prop where
 bn:Blk wr w.heap.size 3 #[.int .i64 n]
 r0:Qg wr (w.heap.size+1) Cn.zero
 r1:Blk wr (w.heap.size+1+1) 24 #[.nilIface]
 below:Below w.heap.size w wr
theorem LnT.then_below {w wr w2:World}{n:Int}(h:LnT w wr n)(hb:Below wr.heap.size wr w2):LnT w w2 n :=
 ⟨h.bn.below hb h.bn.lt,h.r0.below hb h.r0.lt,h.r1.below hb h.r1.lt,Qa h.below hb⟩
theorem Qdm (w:World)(n:Int)(er:Value):∀ W,W=(((w.alloc (.cells #[.int .i64 n] 3)).alloc (.cells #[.int .i64 0,.int .i64 0,.int .i64 0,.int .i64 0] 125)).alloc (.cells #[er] 24)) →
  Qg W (w.heap.size+1) Cn.zero∧Blk W (w.heap.size+1+1) 24 #[er]∧Below w.heap.size w W∧Blk W w.heap.size 3 #[.int .i64 n]:=by
 rintro W rfl;have h1:=Blk.new w 3 #[.int .i64 n];have h3:=Wbc (w.alloc (.cells #[.int .i64 n] 3)) (.cells #[.int .i64 0,.int .i64 0,.int .i64 0,.int .i64 0] 125);have h4:=Blk.new ((w.alloc (.cells #[.int .i64 n] 3)).alloc (.cells #[.int .i64 0,.int .i64 0,.int .i64 0,.int .i64 0] 125)) 24 #[er];simp only[Waq] at h3 h4;have h3':Qg _ (w.heap.size+1) Cn.zero:=h3
 exact⟨Blk.alloc (t:=125) h3' _,h4,Qb (Qb (Qb (Wac _ _) _) _) _,(h1.alloc _).alloc _⟩
theorem J7 {w wr:World}{n:Int}(h:LnT w wr n)(c:Cn)(er:Value):∀ W',W'=(((((wr.setCell ⟨w.heap.size+1,0,none⟩ (.int .i64 c.b)).setCell ⟨w.heap.size+1,1,none⟩ (.int .i64 c.h)).setCell ⟨w.heap.size+1,2,none⟩ (.int .i64 c.r)).setCell ⟨w.heap.size+1,3,none⟩ (.int .i64 c.l)).setCell ⟨w.heap.size+1+1,0,none⟩ er) →
  Qg W' (w.heap.size+1) c∧Blk W' (w.heap.size+1+1) 24 #[er]∧Below w.heap.size w W'∧(∀ b,b≠w.heap.size+1→b≠w.heap.size+1+1→W'.heap[b]?=wr.heap[b]?)∧W'.heap.size=wr.heap.size:=by
 rintro W' rfl;obtain⟨h1,h2,h3⟩:=XC (y:=c) h.r0;have hr1:Blk _ (w.heap.size+1+1) _ _:=(h3 (w.heap.size+1+1) (by omega)).trans h.r1;refine⟨(Below.heap_setCell _ _ _ _ (by show w.heap.size+1≠w.heap.size+1+1;omega)).trans h1,hr1.set_ 0 er,?_,fun b hb1 hb2=>(Below.heap_setCell _ _ _ _ (by show b≠w.heap.size+1+1;exact hb2)).trans (h3 b hb1),by simp⟩;exact (h.below.trans (h2 _ (by omega))).setCell (p:=⟨w.heap.size+1+1,0,none⟩) (by show w.heap.size≤w.heap.size+1+1;omega) _
theorem Qa3 {w W:World}{c:Cn}{er:Value}{n:Int}{R:List Int}{a:Act}{B1 B2:Nat}(h1:Qg W B1 c)(h2:Blk W B2 24 #[er])(hb:Below w.heap.size w W)(ha:Qa2 n R c er)
  (t6:a.tmps[4]?=some (.pointer (some ⟨B1,0,none⟩))) (t7:a.tmps[5]?=some (.pointer (some ⟨B2,0,none⟩))) (hd:a.defers=[]) :
  bodyPostM Fence.wide 6 prog Tryz.f212 (J6 n R w) Exit.ret a W:=by
 obtain⟨g0,g1,g2,g3⟩:=h1.cells;have y0:=h2.cell 0;simp only[Wab,Waa] at y0
 show LeavesInM _ _ _ _ _ _ _ _ _
 rw[hd]
 exact⟨.tuple #[c.v,er],by simp[results,Tryz.f212,go_sem,t6,t7,g0,g1,g2,g3,y0],hb,c,er,rfl,ha⟩
theorem Qti {w W:World}{c:Cn}{er:Value}{n:Int}{R:List Int}{a:Act}{B1 B2 bk:Nat}(h1:Qg W B1 c)(h2:Blk W B2 24 #[er])(hb:Below w.heap.size w W)(ha:Qa2 n R c er)
  (t6:a.tmps[4]?=some (.pointer (some ⟨B1,0,none⟩))) (t7:a.tmps[5]?=some (.pointer (some ⟨B2,0,none⟩))) (hd:a.defers=[{ target:=.collected bk,args:=#[] }]) (hk:W.heap[bk]?=some (.deferred (some []))) (hn:B1≠bk∧B2≠bk∧w.heap.size≤bk) :
  bodyPostM Fence.wide 6 prog Tryz.f212 (J6 n R w) Exit.ret a W:=by
 have h1':Qg (W.putObj bk (.deferred none)) B1 c:=(World.putObj_heap_other hn.1).trans h1;have h2':Blk (W.putObj bk (.deferred none)) B2 24 #[er]:=(World.putObj_heap_other hn.2.1).trans h2;obtain⟨g0,g1,g2,g3⟩:=h1'.cells;have y0:=h2'.cell 0;simp only[Wab,Waa] at y0
 show LeavesInM _ _ _ _ _ _ _ _ _
 rw[hd];refine⟨by simp,.inl ⟨_,_,rfl,run_takeDeferred hk,?_⟩⟩
 exact⟨.tuple #[c.v,er],by simp[results,Tryz.f212,go_sem,t6,t7,g0,g1,g2,g3,y0],hb.trans (Xc _ _ _ hn.2.2),c,er,rfl,ha⟩
structure LnS (w wr:World)(z:Nat)(n:Int)(c:Cn):Prop where
 t:LnT w wr n
 bc:Qg wr z c
 hz:w.heap.size+3≤z
theorem LnS.then_below {w wr w2:World}{z:Nat}{n:Int}{c:Cn}(h:LnS w wr z n c)(hb:Below wr.heap.size wr w2):LnS w w2 z n c:=⟨h.t.then_below hb,h.bc.below hb h.bc.lt,h.hz⟩
theorem LnS.belowB {w wr w2:World}{z b:Nat}{n:Int}{c:Cn}(h:LnS w wr z n c)(hb:Below b wr w2)(hz:z<b):LnS w w2 z n c:=by
 have:=h.hz
 exact⟨⟨h.t.bn.below hb (by omega),h.t.r0.below hb (by omega),h.t.r1.below hb (by omega),h.t.below.trans (hb.mono (by omega))⟩,h.bc.below hb hz,h.hz⟩
theorem LnS.set_c {w wr:World}{z:Nat}{n:Int}{c c':Cn}(h:LnS w wr z n c) :
  LnS w ((((wr.setCell ⟨z,0,none⟩ (.int .i64 c'.b)).setCell ⟨z,1,none⟩ (.int .i64 c'.h)).setCell ⟨z,2,none⟩ (.int .i64 c'.r)).setCell ⟨z,3,none⟩ (.int .i64 c'.l)) z n c':=by
 obtain⟨h1,h2,h3⟩:=XC (y:=c') h.bc;have hz:=h.hz
 exact⟨⟨(h3 _ (by omega)).trans h.t.bn,(h3 _ (by omega)).trans h.t.r0,(h3 _ (by omega)).trans h.t.r1,h.t.below.trans (h2 _ (by omega))⟩,h1,hz⟩
structure LnL (w wr:World)(z y:Nat)(n:Int)(c cl:Cn):Prop where
 s:LnS w wr z n c
 by_:Qg wr y cl
 zy:z<y
theorem LnL.then_below {w wr w2:World}{z y:Nat}{n:Int}{c cl:Cn}(h:LnL w wr z y n c cl)(hb:Below wr.heap.size wr w2):LnL w w2 z y n c cl:=⟨h.s.then_below hb,h.by_.below hb h.by_.lt,h.zy⟩
theorem LnL.drew {w wr:World}{z y:Nat}{n:Int}{c cl:Cn}(h:LnL w wr z y n c cl):LnL w wr.drew z y n c cl:=h.then_below (Qe (Wac _ _))
def LnX (w:World)(n:Int)(R:List Int)(W:World):Prop :=
 Below w.heap.size w W∧∃ c er,Qg W (w.heap.size+1) c∧Blk W (w.heap.size+1+1) 24 #[er]∧Qa2 n R c er
theorem Qim (w:World):Qg (w.alloc (.cells #[.int .i64 0,.int .i64 0,.int .i64 0,.int .i64 0] 125)) w.heap.size Cn.zero:=Wbc w _
theorem J8 {rs:List Int}{k:Nat}(h:rs.length≤k):(cnt rs).l≤4*k:=by
 obtain⟨⟨b0,b1,h0,h1,r0,r1,l0,l1⟩,-,-⟩:=Zk rs;omega
attribute [local go_sem] Oper.semAt_some Cn.v_eq Qcu
theorem Qtj {p:Nat}{t:RT}{w:World}{n:Int}(h:AtR w p t)(hg:Good t)(hn:0≤n∧n≤(cnt t.runes).l) :
  Calls prog 212 #[.pointer (some ⟨p,0,none⟩),.int .i64 n] w (J6 n t.runes w):=by
 have HR:=Hm h;have HG:=Hm hg;have HN:=Hm hn;have c0:=h.blk.cell 0;have cl:=h.blk.lt;simp only[Wab,Waa,RT.ptr] at c0;have i3:¬ n<0:=by omega
 have d3:decide (n<0)=false:=decide_eq_false i3;have htl:t.runes.length≤8000:=by have:=QB t.runes;have:=hg.sz;omega
 have HTL:=Hm htl;obtain⟨tot,htot⟩:∃ x,x=cnt t.runes:=⟨_,rfl⟩;have HTOT:=Hm htot;have i4:¬ tot.l<n:=by rw[htot];omega
 clear h hg hn htot htl;refine (callsIn_wide (n:=6)).1 ?_;refine callsIn_of_wp_marks func212 rfl trivial ?_ rfl
 simp only[ntmps212,List.size_toArray,Wan,List.length_nil,Nat.reduceAdd,Nat.reduceSub,Array.replicate_succ,Array.replicate_zero,List.push_toArray,List.append_toArray,Wbn,Wap];refine wpIn_wide.2 (Code.wp_mono NoPanic.imp ?_);go_wp2_with fail;obtain⟨s1,s2,s3,s4⟩:=Qdm w n .nilIface _ rfl;have hS:LnT w _ n:=⟨s4,s1,s2,s3⟩;clear s1 s2 s3 s4;generalize (((w.alloc (.cells #[.int .i64 n] 3)).alloc (.cells #[.int .i64 0,.int .i64 0,.int .i64 0,.int .i64 0] 125)).alloc (.cells #[.nilIface] 24))=wa at hS ⊢;have b0:=hS.bn.cell 0;simp only[Wab,Waa] at b0;have HS:=Hm hS;clear hS;have hc1:∀ d os,Calls prog 209 #[.pointer (some ⟨p,0,none⟩)] (grow (redrawn wa d) os) fun e w''=>e=.returned (.agg #[.int .i64 tot.b,.int .i64 tot.h,.int .i64 tot.r,.int .i64 tot.l])∧∃ p:Regrown,w''=grow (redrawn wa p.d) p.os:=fun d os=>by rw[HTOT.o];exact Calls.regrown_of (YB (HR.o.below (Qa HS.o.below (below_regrown wa d os))))
 have kb0:=cell_regrown b0;refine wp_region_quiet_below (by kernel_rfl) (by kernel_rfl) ?_
 repeat (quiet_step (first | exact hc1 _ _))
 refine wpQuiet_nil ?_;rintro _ ⟨⟨dq,osq⟩,rfl⟩;have HS2:=Hm (HS.o.then_below (below_regrown wa dq osq));generalize grow (redrawn wa dq) osq=wb at HS2 ⊢;clear hc1 kb0 b0 HS wa;have hpb:=(HR.o.below HS2.o.below).blk;have p0:=hpb.cell 0;have pl:=hpb.lt;simp only[Wab,Waa,RT.ptr] at p0;clear hpb c0 cl;go_wp2_with fail;have hS0:LnS w (wb.alloc (.cells #[.int .i64 0,.int .i64 0,.int .i64 0,.int .i64 0] 125)) wb.heap.size n Cn.zero:=⟨HS2.o.then_below (Qb (Wac _ _) _),Wbc wb _,by have:=HS2.o.r1.lt;omega⟩;have hz0:=hS0.hz;have HS0:=Hm hS0;clear hS0 p0 pl;obtain⟨z,hz⟩:∃ z,z=wb.heap.size:=⟨_,rfl⟩;rw[← hz] at HS0 hz0 ⊢;clear hz
 go_loopg [7] t.nodes.length (fun gk nv wr=>∃ (s:RT) (pre post:List Int),nv=s.ptr∧LnS w wr z n (cnt pre)∧AtT w s∧t.runes=pre++s.runes++post∧((n=0∧pre=[])∨(cnt pre).l<n)∧n≤(cnt (pre++s.runes)).l∧s.nodes.length≤gk)
 case atStart =>
  refine⟨t,[],[],rfl,HS0.o,HR.o.tree,by simp,?_,by rw[Wbn];exact HN.o.2,Wak _⟩
  by_cases h0:n=0
  ·exact .inl ⟨h0,rfl⟩
  ·right;rw[QQ];show (0:Int)<n;have:=HN.o;omega
 case round =>
  obtain⟨s,pre,post,rfl,hS,hat,hr,h1,h2,hgk⟩:=hrel;have HSR:=Hm hS;have HAT:=Hm hat
  have HRR:=Hm hr;have HGK:=Hm hgk;have b0:=hS.t.bn.cell 0;simp only[Wab,Waa] at b0;have bnl:=hS.t.bn.lt
  by_cases h0:n=0
  ·have hpre:pre=[]:=by
    rcases h1 with h1 | h1
    ·exact h1.2
    ·have:=Yb pre;omega
   subst hpre;have hn0:¬ (0:Int)<n:=by omega
   have HN0:=Hm h0;obtain⟨q0,q1,q2,q3⟩:=hS.bc.cells;have bcl:=hS.bc.lt;obtain⟨z0,z1,z2,z3⟩:=hS.t.r0.cells;have y0:=hS.t.r1.cell 0;simp only[Wab,Waa] at y0;have r0f:=hS.t.r0.frozen;have r1f:=hS.t.r1.frozen;have r0l:=hS.t.r0.lt;have r1l:=hS.t.r1.lt;clear hat hr h1 h2 hgk hS h0;obtain⟨ps,hps⟩:∃ x,x=s.pa:=⟨_,rfl⟩;rw[RT.ptr,← hps];clear hps
   cases ps with
   | none =>
    go_wp2_with fail;obtain⟨e1,e2,e3,-⟩:=J7 HSR.o.t (cnt []) .nilIface _ rfl;change bodyPostM Fence.wide 6 _ _ _ Exit.ret _ _;exact Qa3 e1 e2 e3 ⟨fun e=>by have:=HN.o;omega,fun _=>⟨rfl,[],t.runes,rfl,by rw[HN0.o];rfl,rfl,.inl rfl⟩⟩ rfl rfl rfl
   | some ad =>
    go_wp2_with fail;obtain⟨e1,e2,e3,-⟩:=J7 HSR.o.t (cnt []) .nilIface _ rfl;change bodyPostM Fence.wide 6 _ _ _ Exit.ret _ _;exact Qa3 e1 e2 e3 ⟨fun e=>by have:=HN.o;omega,fun _=>⟨rfl,[],t.runes,rfl,by rw[HN0.o];rfl,rfl,.inl rfl⟩⟩ rfl rfl rfl
  ·have h1:(cnt pre).l<n:=h1.resolve_left (fun e=>h0 e.1);have HL1:=Hm h1;have HL2:=Hm h2;have hnp:(0:Int)<n:=by have:=Yb pre;omega
   clear hat hr h1 h2 hgk hS h0
   cases s with
   | nil=>exact absurd HL2.o (by have:=HL1.o;simp only[RT.runes_nil,Wam];omega)
   | node g rs l r =>
    have hlr:pre.length+(l.runes.length+(rs.length+r.runes.length))≤8000:=by
     have h1:=HTL.o;have h2:=HRR.o;rw[h2] at h1;simp only[RT.runes_node,Wad] at h1;omega
    have HIN:Hd ((cnt pre).In 2305843009213693952∧(cnt l.runes).In 2305843009213693952∧(cnt rs).In 2305843009213693952∧((cnt pre).add (cnt l.runes)).In 2305843009213693952):=⟨⟨Zj (by omega),Zj (by omega),Zj (by omega),by rw[← Zo];exact Zj (by simp;omega)⟩⟩;have bc1:0≤(cnt pre).l∧(cnt pre).l≤32000:=⟨Yb _,by have:=J8 (rs:=pre) (k:=8000) (by omega);omega⟩;have bl1:0≤(cnt l.runes).l∧(cnt l.runes).l≤32000:=⟨Yb _,by have:=J8 (rs:=l.runes) (k:=8000) (by omega);omega⟩;have bo1:0≤(cnt rs).l∧(cnt rs).l≤32000:=⟨Yb _,by have:=J8 (rs:=rs) (k:=8000) (by omega);omega⟩;have ba1:0≤n∧n≤32000:=⟨HN.o.1,by have h1:=HN.o.2;have:=J8 (rs:=t.runes) (k:=8000) HTL.o;omega⟩;obtain⟨bc1,bc2⟩:=bc1;obtain⟨bl1,bl2⟩:=bl1;obtain⟨bo1,bo2⟩:=bo1;obtain⟨ba1,ba2⟩:=ba1;clear hlr;have hgb:=HAT.o.1.below HSR.o.t.below HAT.o.1.lt;obtain⟨-,-,-,-,-,-,-,-,-,c9,-,-⟩:=Qv hgb;have gl:=hgb.lt;simp only[RT.ptr] at c9;rw[RT.ptr_node];clear hgb;go_upto_region 7 with (go_at_call 261;refine (X8 (t:=l) (HAT.o.2.1.below HSR.o.t.below)).mono ?_;rintro e w1 ⟨rfl,hb1⟩;have HS1:=Hm (HSR.o.then_below hb1);clear hb1)
    have hSa:=HS1.o.then_below (Qb (Wac _ _) (.cells #[.int .i64 (cnt l.runes).b,.int .i64 (cnt l.runes).h,.int .i64 (cnt l.runes).r,.int .i64 (cnt l.runes).l] 125));have hYa:Qg _ w1.heap.size (cnt l.runes):=Wbc w1 _;have hyz:z<w1.heap.size:=HS1.o.bc.lt;obtain⟨y,hy⟩:∃ y,y=w1.heap.size:=⟨_,rfl⟩;rw[← hy] at hYa hyz ⊢;generalize w1.alloc (.cells #[.int .i64 (cnt l.runes).b,.int .i64 (cnt l.runes).h,.int .i64 (cnt l.runes).r,.int .i64 (cnt l.runes).l] 125)=wa at hSa hYa ⊢;clear hy HS1 HSR b0 bnl c9 gl w1;have HY:=Hm (LnL.mk hSa hYa hyz);clear hSa hYa;obtain⟨q0,q1,q2,q3⟩:=HY.o.s.bc.cells;obtain⟨l0,l1,l2,l3⟩:=HY.o.by_.cells;have b0:=HY.o.s.t.bn.cell 0;simp only[Wab,Waa] at b0;have hgx:=HAT.o.1.below HY.o.s.t.below HAT.o.1.lt;obtain⟨n0,n1,n2,n3,n4,-,-,-,-,n9,n10,-⟩:=Qv hgx;have gl:=hgx.lt;simp only[RT.ptr] at n9 n10;have bnl:=HY.o.s.t.bn.lt;have bcl:=HY.o.s.bc.lt;have bll:=HY.o.by_.lt;have bcf:=HY.o.s.bc.frozen;clear hgx;have hw1:IntKind.i64.wrap (n-(cnt pre).l)=n-(cnt pre).l:=by rw[Waw]<;>omega
    have hw2:IntKind.i64.wrap ((cnt l.runes).l+(cnt rs).l)=(cnt l.runes).l+(cnt rs).l:=by rw[Waw]<;>omega
    by_cases hk:n-(cnt pre).l≤(cnt l.runes).l
    ·go_wp2_with fail
     go_roundg l.nodes.length
     case rel=>exact⟨l,pre,rs++r.runes++post,rfl,HY.o.s,HAT.o.2.1,by rw[HRR.o];simp,.inr HL1.o,by rw[QZ];omega,Wak _⟩
     case measure=>have:=HGK.o;simp only[RT.nodes_node,Wad,Wan] at this;omega
    ·go_wp2_with fail;go_quiet (fail)
     have HY4:=Hm (HY.o.then_below (Qo nq (Wac _ _)));generalize wa.drewN nq=w4 at HY4 ⊢;clear q0 q1 q2 q3 l0 l1 l2 l3 b0 n0 n1 n2 n3 n4 n9 n10 gl bnl bcl bll bcf;clear HY wa;obtain⟨q0,q1,q2,q3⟩:=HY4.o.s.bc.cells;obtain⟨l0,l1,l2,l3⟩:=HY4.o.by_.cells;have b0:=HY4.o.s.t.bn.cell 0;simp only[Wab,Waa] at b0;have hgx:=HAT.o.1.below HY4.o.s.t.below HAT.o.1.lt;obtain⟨n0,n1,n2,n3,n4,-,-,-,-,n9,n10,-⟩:=Qv hgx;have gl:=hgx.lt;simp only[RT.ptr] at n9 n10;have bnl:=HY4.o.s.t.bn.lt;have bcl:=HY4.o.s.bc.lt;have bll:=HY4.o.by_.lt;have bcf:=HY4.o.s.bc.frozen;clear hgx
     by_cases hk2:(cnt l.runes).l+(cnt rs).l<n-(cnt pre).l
     ·go_wp2_with fail
      go_region_with (first
       | (go_at_call_of 182 (cnt rs);refine (Zm ((cnt pre).add (cnt l.runes)) (cnt rs) _ HIN.o.2.2.2 HIN.o.2.2.1).mono ?_;rintro e w6 ⟨rfl,hb6⟩;have HY6:=Hm (HY5.o.then_below hb6);clear hb6;obtain⟨q0,q1,q2,q3⟩:=HY6.o.s.bc.cells;obtain⟨l0,l1,l2,l3⟩:=HY6.o.by_.cells;have b0:=HY6.o.s.t.bn.cell 0;simp only[Wab,Waa] at b0;have hgx:=HAT.o.1.below HY6.o.s.t.below HAT.o.1.lt;obtain⟨n0,n1,n2,n3,n4,-,-,-,-,n9,n10,-⟩:=Qv hgx;have gl:=hgx.lt;simp only[RT.ptr] at n9 n10;have bnl:=HY6.o.s.t.bn.lt;have bcl:=HY6.o.s.bc.lt;have bll:=HY6.o.by_.lt;have bcf:=HY6.o.s.bc.frozen;clear hgx)
       | (go_at_call_of 182 (cnt l.runes);refine (Zm (cnt pre) (cnt l.runes) _ HIN.o.1 HIN.o.2.1).mono ?_;rintro e w5 ⟨rfl,hb5⟩;have HY5:=Hm (HY4.o.drew.then_below hb5);clear hb5;obtain⟨q0,q1,q2,q3⟩:=HY5.o.s.bc.cells;obtain⟨l0,l1,l2,l3⟩:=HY5.o.by_.cells;have b0:=HY5.o.s.t.bn.cell 0;simp only[Wab,Waa] at b0;have hgx:=HAT.o.1.below HY5.o.s.t.below HAT.o.1.lt;obtain⟨n0,n1,n2,n3,n4,-,-,-,-,n9,n10,-⟩:=Qv hgx;have gl:=hgx.lt;simp only[RT.ptr] at n9 n10;have bnl:=HY5.o.s.t.bn.lt;have bcl:=HY5.o.s.bc.lt;have bll:=HY5.o.by_.lt;have bcf:=HY5.o.s.bc.frozen;clear hgx))
      all_goals
       have HS7:=Hm (HY6.o.s.set_c (c':=((cnt pre).add (cnt l.runes)).add (cnt rs)));generalize ((((w6.setCell ⟨z,0,none⟩ (.int .i64 (((cnt pre).add (cnt l.runes)).add (cnt rs)).b)).setCell ⟨z,1,none⟩ (.int .i64 (((cnt pre).add (cnt l.runes)).add (cnt rs)).h)).setCell ⟨z,2,none⟩ (.int .i64 (((cnt pre).add (cnt l.runes)).add (cnt rs)).r)).setCell ⟨z,3,none⟩ (.int .i64 (((cnt pre).add (cnt l.runes)).add (cnt rs)).l))=w7 at HS7 ⊢;have hg7:=HAT.o.1.below HS7.o.t.below HAT.o.1.lt;clear q0 q1 q2 q3 l0 l1 l2 l3 b0 n0 n1 n2 n3 n4 n9 n10 gl bnl bcl bll bcf;obtain⟨-,-,-,-,-,-,-,-,-,-,n10,-⟩:=Qv hg7;have gl:=hg7.lt;simp only[RT.ptr] at n10;clear hg7;go_wp2_with fail
       go_roundg r.nodes.length
       case rel=>exact⟨r,pre++l.runes++rs,post,rfl,by rw[Zo,Zo];exact HS7.o,HAT.o.2.2,by rw[HRR.o];simp,.inr (by rw[QZ,QZ];omega),by have:=HL2.o;simp only[RT.runes_node,← Wah] at this;exact this,Wak _⟩
       case measure=>have:=HGK.o;simp only[RT.nodes_node,Wad,Wan] at this;omega
     ·go_upto_region 14 with (first
       | (go_at_call 182;refine (Zm (cnt pre) (cnt l.runes) _ HIN.o.1 HIN.o.2.1).mono ?_;rintro e w5 ⟨rfl,hb5⟩;have HS5:=Hm (HY4.o.s.then_below hb5);clear hb5;clear q0 q1 q2 q3 l0 l1 l2 l3 b0 n0 n1 n2 n3 n4 n9 n10 gl bnl bcl bll bcf;obtain⟨q0,q1,q2,q3⟩:=HS5.o.bc.cells;have bcf:=HS5.o.bc.frozen;have bcl:=HS5.o.bc.lt))
      have HS6:=Hm (HS5.o.set_c (c':=(cnt pre).add (cnt l.runes)));generalize ((((w5.setCell ⟨z,0,none⟩ (.int .i64 ((cnt pre).add (cnt l.runes)).b)).setCell ⟨z,1,none⟩ (.int .i64 ((cnt pre).add (cnt l.runes)).h)).setCell ⟨z,2,none⟩ (.int .i64 ((cnt pre).add (cnt l.runes)).r)).setCell ⟨z,3,none⟩ (.int .i64 ((cnt pre).add (cnt l.runes)).l))=w6 at HS6 ⊢;clear q0 q1 q2 q3 bcf bcl HS5 HY4 w4;have hg6:=HAT.o.1.below HS6.o.t.below HAT.o.1.lt;obtain⟨n0,-⟩:=Qv hg6;have gl:=hg6.lt;clear hg6;go_wp2_with (go_at_call 277;refine (Qjo (U.encs rs) _).mono ?_;rintro e w' ⟨rfl,rfl⟩)
      have HPC:Hd ((cnt pre).add (cnt l.runes)=cnt (pre++l.runes)):=⟨(Zo _ _).symm⟩;rw[HPC.o] at HS6;have HRX:Hd (t.runes=(pre++l.runes)++(rs++(r.runes++post))):=⟨by rw[HRR.o];simp⟩;have HVP:Hd ((cnt (pre++l.runes)).l<n∧n≤(cnt ((pre++l.runes)++rs)).l):=⟨by rw[QZ,QZ,QZ];omega⟩;have HLP:Hd ((pre++l.runes).length+rs.length≤8000):=⟨by have h1:=HTL.o;rw[HRX.o] at h1;simp only[Wad] at h1 ⊢;omega⟩;have HALL:Hd (U.AllR rs):=⟨fun x hx=>HG.o.all x (by rw[HRX.o];simp[hx])⟩;generalize pre++l.runes=p2 at *;have hSB:Blk (w6.alloc (.cells #[.string ⟨(U.encs rs).toArray⟩] 9)) w6.heap.size 9 #[.string ⟨(U.encs rs).toArray⟩]:=Blk.new _ _ _;have hS7:=HS6.o.then_below (Qb (Wac _ _) (.cells #[.string ⟨(U.encs rs).toArray⟩] 9));have hz6:z<w6.heap.size:=HS6.o.bc.lt;generalize hsb:w6.heap.size=sB at *;generalize w6.alloc (.cells #[.string ⟨(U.encs rs).toArray⟩] 9)=wz at hSB hS7 ⊢;have hsz:=hSB.lt;have HSB:=Hm hSB;have HS7:=Hm hS7;clear hSB hS7 HS6 hsb w6 n0 gl;refine (wpIn_wide (n:=6)).1 ?_;have HSPP:Hd (U.Sp (U.encs rs) rs []):=⟨U.sp_encs HALL.o⟩;have hel:(U.encs rs).length≤1000000:=by have h1:=HG.o.sz;rw[HRX.o] at h1;simp only[bl_append] at h1;have:(U.encs rs).length=bl rs:=rfl;omega
      refine Qez (gf:=302) (lb:=#[.pointer (some ⟨sB,0,none⟩)]) (xs:=fun k=>#[(cnt (rs.take k)).v,(Q7 (rs[k]?.getD 0) (U.wid (rs[k]?.getD 0))).v]) (N:=rs.length) (iB:=z) rfl (enters_of func302 (by kernel_rfl) rfl) (by omega)
       (fun l J Jx W hb hJ hY h0=>Qhd 5 l sB z HSPP.o hel J Jx W (by omega) (HSB.o.below hb HSB.o.lt) (by have:=hb.size;omega) (by omega) hJ (fun k A hk hj=>by have:=hY k A hk hj;simpa [hk] using this) h0)
       (fun _=>rfl) (fun k W=>Below wz.heap.size wz W∧(cnt (p2++rs.take k)).l<n) (LnX w n t.runes)
       (fun k A B h hb=>⟨h.1.trans (hb.mono (by omega)),h.2⟩) ?hx ⟨Wac _ _,?h0⟩ ?round ?done ?left
      case hx =>
       rintro A B ⟨h1,c,er,h2,h3,h4⟩ hb
       have:=HS7.o.hz
       exact⟨h1.trans (hb.mono (by omega)),c,er,h2.below hb (by omega),h3.below hb (by omega),h4⟩
      case h0=>rw[List.take_zero,Wam];exact HVP.o.1
      case done =>
       rintro W ⟨hbW,hvW⟩ hD;rw[Wbe] at hvW;exact absurd HVP.o.2 (by omega)
      case left =>
       rintro W ⟨hbW,c,er,h1,h2,h3⟩ hD;have hzz:w.heap.size+3≤z:=HS7.o.hz;change bodyPostM Fence.wide 6 _ _ _ Exit.ret _ _;exact Qti h1 h2 hbW h3 rfl rfl rfl hD ⟨by omega,by omega,by omega⟩
      case round =>
       rintro lo k W hk ⟨hbW,hvx⟩ hlt
       gi_wp2_with fail
       refine⟨Qb (Qb (Wac _ _) _) _,fun o=>?_⟩;have HCS:Hd (cnt (p2++rs.take (k+1))=(cnt (p2++rs.take k)).add (Q7 rs[k] (U.wid rs[k]))):=⟨by rw[Wag hk,← Wah,YM]⟩;have HCA:Hd ((cnt p2).add (cnt (rs.take k))=cnt (p2++rs.take k)):=⟨(Zo _ _).symm⟩;have HTK:Hd (rs.take (k+1)=rs.take k++[rs[k]]):=⟨Wag hk⟩;have htk:(rs.take k).length≤rs.length:=by rw[Wbb];omega
       have HCI:Hd ((cnt p2).In 2305843009213693952∧(cnt (rs.take k)).In 2305843009213693952∧(cnt (p2++rs.take k)).In 2305843009213693952∧(Q7 rs[k] (U.wid rs[k])).In 2305843009213693952):=⟨⟨Zj (by have:=HLP.o;omega),Zj (by have:=HLP.o;omega),Zj (by have:=HLP.o;simp only[Wad];omega),by
        obtain⟨b0,b1,h0,h1,r0,r1,l0,l1⟩:=Qa6 rs[k]
        exact⟨b0,by omega,h0,by omega,r0,by omega,l0,by omega⟩⟩⟩
       have HOL:Hd ((Q7 rs[k] (U.wid rs[k])).l=if rs[k]=10 then 1 else 0):=⟨rfl⟩;have HVX:=Hm hvx;clear hvx htk;generalize hrk:rs[k]=rk at *;have HRK:=Hm hrk;clear hrk;generalize cnt (rs.take k)=cx at *;generalize hox:Q7 rk (U.wid rk)=ox at *;clear hox;have hA:Qg (((W.alloc (.cells #[.int .i64 cx.b,.int .i64 cx.h,.int .i64 cx.r,.int .i64 cx.l] 125)).alloc (.cells #[.int .i64 ox.b,.int .i64 ox.h,.int .i64 ox.r,.int .i64 ox.l] 125)).putObj (wz.heap.size+1) o) W.heap.size cx:=(World.putObj_heap_other (by omega)).trans ((Blk.new W 125 _).alloc _)
       have hO:Qg (((W.alloc (.cells #[.int .i64 cx.b,.int .i64 cx.h,.int .i64 cx.r,.int .i64 cx.l] 125)).alloc (.cells #[.int .i64 ox.b,.int .i64 ox.h,.int .i64 ox.r,.int .i64 ox.l] 125)).putObj (wz.heap.size+1) o) (W.heap.size+1) ox:=(World.putObj_heap_other (by omega)).trans (by
        have h:=Wbc (W.alloc (.cells #[.int .i64 cx.b,.int .i64 cx.h,.int .i64 cx.r,.int .i64 cx.l] 125)) (.cells #[.int .i64 ox.b,.int .i64 ox.h,.int .i64 ox.r,.int .i64 ox.l] 125);rw[Waq] at h;exact h)
       have hB:Below wz.heap.size wz (((W.alloc (.cells #[.int .i64 cx.b,.int .i64 cx.h,.int .i64 cx.r,.int .i64 cx.l] 125)).alloc (.cells #[.int .i64 ox.b,.int .i64 ox.h,.int .i64 ox.r,.int .i64 ox.l] 125)).putObj (wz.heap.size+1) o):=hbW.trans (((Qb (Qb (Wac W.heap.size W) _) _).mono (by omega)).trans (Xc _ _ _ (by omega)));have hq2:W.heap.size+1<(((W.alloc (.cells #[.int .i64 cx.b,.int .i64 cx.h,.int .i64 cx.r,.int .i64 cx.l] 125)).alloc (.cells #[.int .i64 ox.b,.int .i64 ox.h,.int .i64 ox.r,.int .i64 ox.l] 125)).putObj (wz.heap.size+1) o).heap.size:=by simp
       generalize (((W.alloc (.cells #[.int .i64 cx.b,.int .i64 cx.h,.int .i64 cx.r,.int .i64 cx.l] 125)).alloc (.cells #[.int .i64 ox.b,.int .i64 ox.h,.int .i64 ox.r,.int .i64 ox.l] 125)).putObj (wz.heap.size+1) o)=wq at *;generalize W.heap.size=q at *;clear hbW;have HSq:=Hm (HS7.o.belowB hB (by omega));have HA':=Hm hA;have HO':=Hm hO;have HB':=Hm hB;clear hA hO hB
       gi_upto_region 17 with fail
       have HXV:Hd ((cnt (p2++rs.take k)).add ox=(cnt (p2++rs.take k)).add ox):=⟨rfl⟩
       gi_cut [12] from 85 (fun xv wx=>∃ xb,xv=.pointer (some ⟨xb,0,none⟩)∧q+1<xb∧Qg wx xb (((cnt p2).add cx).add ox)∧LnS w wx z n (cnt p2)∧Qg wx (q+1) ox∧Below wq.heap.size wq wx)
       case first =>
        obtain⟨a0,a1,a2,a3⟩:=HA'.o.cells;obtain⟨o0,o1,o2,o3⟩:=HO'.o.cells;obtain⟨q0,q1,q2,q3⟩:=HSq.o.bc.cells;have bcl:=HSq.o.bc.lt;have hql:q<wq.heap.size:=by omega
        have HCI2:Hd (((cnt p2).add cx).In 2305843009213693952):=⟨by rw[HCA.o];exact HCI.o.2.2.1⟩;refine Qth (S:=fun w'=>Below wq.heap.size wq w') (by kernel_rfl) (by kernel_rfl) ?_ (Qe (Wac _ _)) (fun hSd=>?_)
        ·rintro⟨a',w',hh⟩;rcases hh with ⟨hh,-⟩ | ⟨hh,-⟩<;>cases hh
        clear a0 a1 a2 a3 o0 o1 o2 o3 q0 q1 q2 q3;refine wpAnyH_take (i:=0) (v:=.agg #[.int .i64 (cnt p2).b,.int .i64 (cnt p2).h,.int .i64 (cnt p2).r,.int .i64 (cnt p2).l]) rfl (by kernel_rfl) (by kernel_rfl) (by kernel_rfl) (fun _ _ _ h=>h) (Or.inl ⟨by rfl,?_⟩) hSd ?_
        ·intro w' hw';obtain⟨m0,m1,m2,m3⟩:=(Qg.below HSq.o.bc hw' (by omega)).cells;go_simp
        try simp only[Act.put,List.setIfInBounds_toArray]
        refine wpAnyH_take (i:=1) (v:=.agg #[.int .i64 cx.b,.int .i64 cx.h,.int .i64 cx.r,.int .i64 cx.l]) rfl (by kernel_rfl) (by kernel_rfl) (by kernel_rfl) (fun _ _ _ h=>h) (Or.inl ⟨by rfl,?_⟩) hSd ?_
        ·intro w' hw';obtain⟨m0,m1,m2,m3⟩:=(Qg.below HA'.o hw' (by omega)).cells;go_simp
        try simp only[Act.put]
        refine wpAnyH_take (i:=3) (v:=.agg #[.int .i64 ox.b,.int .i64 ox.h,.int .i64 ox.r,.int .i64 ox.l]) rfl (by kernel_rfl) (by kernel_rfl) (by kernel_rfl) (fun _ _ _ h=>h) (Or.inl ⟨by rfl,?_⟩) hSd ?_
        ·intro w' hw';obtain⟨m0,m1,m2,m3⟩:=(Qg.below HO'.o hw' (by omega)).cells;go_simp
        try simp only[Act.put]
        refine wpAnyH_ready (rs:=[2,5]) (by kernel_rfl) (by simp) (AllReadyH.cons rfl (fun K hK=>?_) (AllReadyH.cons rfl (fun K hK=>?_) AllReadyH.nil))
        ·go_simp
         refine (Zm (cnt p2) cx _ HCI.o.1 HCI.o.2.1).mono ?_;rintro e w7 ⟨rfl,hb7⟩;have hS7:=Qa hSd hb7;refine hK.out _ _ hS7 (fun _=>?_);clear hK K
         try simp only[Act.put,List.setIfInBounds_toArray,List.set_cons_zero,List.set_cons_succ]
         refine wpAnyH_ready (rs:=[4,5]) (by kernel_rfl) (by simp) (AllReadyH.cons rfl (fun K hK=>?_) (AllReadyH.cons rfl (fun K hK=>?_) AllReadyH.nil))
         ·go_simp
          refine (Zm ((cnt p2).add cx) ox _ HCI2.o HCI.o.2.2.2).mono ?_;rintro e w8 ⟨rfl,hb8⟩;have hS8:=Qa hS7 hb8;refine hK.out _ _ hS8 (fun _=>?_);clear hK K
          try simp only[Act.put,List.setIfInBounds_toArray,List.set_cons_zero,List.set_cons_succ]
          refine wpAnyH_ready (rs:=[5]) (by kernel_rfl) (by simp) (AllReadyH.cons rfl (fun K hK=>?_) AllReadyH.nil);go_simp
          have hS9:=Qb hS8 (.cells #[.int .i64 0,.int .i64 0,.int .i64 0,.int .i64 0] 125);refine hK.out _ _ hS9 (fun _=>?_);clear hK K
          try simp only[Act.put,List.setIfInBounds_toArray,List.set_cons_zero,List.set_cons_succ]
          refine wpAnyH_ready (rs:=[6]) (by kernel_rfl) (by simp) (AllReadyH.cons rfl (fun K hK=>?_) AllReadyH.nil);have HF1:Hd (Qg (w8.alloc (.cells #[.int .i64 (((cnt p2).add cx).add ox).b,.int .i64 (((cnt p2).add cx).add ox).h,.int .i64 (((cnt p2).add cx).add ox).r,.int .i64 (((cnt p2).add cx).add ox).l] 125)) w8.heap.size (((cnt p2).add cx).add ox)):=⟨Wbc w8 _⟩;have HSf:=Hm (Qb hS8 (.cells #[.int .i64 (((cnt p2).add cx).add ox).b,.int .i64 (((cnt p2).add cx).add ox).h,.int .i64 (((cnt p2).add cx).add ox).r,.int .i64 (((cnt p2).add cx).add ox).l] 125));have hxq:wq.heap.size≤w8.heap.size:=hS8.size;go_simp
          refine hK.out _ _ HSf.o (fun _=>?_);refine wpAnyH_done (by kernel_rfl) ?_ _;clear hK K
          gi_wp2_with fail
          gi_meet
          exact⟨_,rfl,by omega,HF1.o,HSq.o.then_below HSf.o,HO'.o.below HSf.o HO'.o.lt,HSf.o⟩
         ·go_simp
          have hS9:=Qb hS7 (.cells #[.int .i64 0,.int .i64 0,.int .i64 0,.int .i64 0] 125);refine hK.out _ _ hS9 (fun _=>?_);clear hK K
          try simp only[Act.put,List.setIfInBounds_toArray,List.set_cons_zero,List.set_cons_succ]
          refine wpAnyH_ready (rs:=[4]) (by kernel_rfl) (by simp) (AllReadyH.cons rfl (fun K hK=>?_) AllReadyH.nil);go_simp
          refine (Zm ((cnt p2).add cx) ox _ HCI2.o HCI.o.2.2.2).mono ?_;rintro e w8 ⟨rfl,hb8⟩;have hS8:=Qa hS9 hb8;refine hK.out _ _ hS8 (fun _=>?_);clear hK K
          try simp only[Act.put,List.setIfInBounds_toArray,List.set_cons_zero,List.set_cons_succ]
          refine wpAnyH_ready (rs:=[6]) (by kernel_rfl) (by simp) (AllReadyH.cons rfl (fun K hK=>?_) AllReadyH.nil);have hX:=(Qg.below (Qim w7) hb8 (by simp));have hxq:wq.heap.size≤w7.heap.size:=hS7.size;obtain⟨y0,y1,y2,y3⟩:=hX.cells;have yf:=hX.frozen;have yl:=hX.lt;obtain⟨f1,f2,f3⟩:=XC (y:=((cnt p2).add cx).add ox) hX;have hSf:=hS8.trans (f2 wq.heap.size hxq);have HF1:=Hm f1;have HSf:=Hm hSf;clear f1 f2 f3 hX hSf;go_simp
          refine hK.out _ _ HSf.o (fun _=>?_);refine wpAnyH_done (by kernel_rfl) ?_ _;clear hK K
          gi_wp2_with fail
          gi_meet
          exact⟨_,rfl,by omega,HF1.o,HSq.o.then_below HSf.o,HO'.o.below HSf.o HO'.o.lt,HSf.o⟩
        ·go_simp
         have hS9:=Qb hSd (.cells #[.int .i64 0,.int .i64 0,.int .i64 0,.int .i64 0] 125);refine hK.out _ _ hS9 (fun _=>?_);clear hK K
         try simp only[Act.put,List.setIfInBounds_toArray,List.set_cons_zero,List.set_cons_succ]
         refine wpAnyH_ready (rs:=[2]) (by kernel_rfl) (by simp) (AllReadyH.cons rfl (fun K hK=>?_) AllReadyH.nil);go_simp
         refine (Zm (cnt p2) cx _ HCI.o.1 HCI.o.2.1).mono ?_;rintro e w7 ⟨rfl,hb7⟩;have hS7:=Qa hS9 hb7;refine hK.out _ _ hS7 (fun _=>?_);clear hK K
         try simp only[Act.put,List.setIfInBounds_toArray,List.set_cons_zero,List.set_cons_succ]
         refine wpAnyH_ready (rs:=[4]) (by kernel_rfl) (by simp) (AllReadyH.cons rfl (fun K hK=>?_) AllReadyH.nil);go_simp
         refine (Zm ((cnt p2).add cx) ox _ HCI2.o HCI.o.2.2.2).mono ?_;rintro e w8 ⟨rfl,hb8⟩;have hS8:=Qa hS7 hb8;refine hK.out _ _ hS8 (fun _=>?_);clear hK K
         try simp only[Act.put,List.setIfInBounds_toArray,List.set_cons_zero,List.set_cons_succ]
         refine wpAnyH_ready (rs:=[6]) (by kernel_rfl) (by simp) (AllReadyH.cons rfl (fun K hK=>?_) AllReadyH.nil);have hX:Qg w8 wq.heap.size Cn.zero:=Qg.below (Qg.below (w:=(wq.alloc (.cells #[.int .i64 0,.int .i64 0,.int .i64 0,.int .i64 0] 125)).drew) (Qim wq) hb7 (by show wq.heap.size<(wq.alloc (.cells #[.int .i64 0,.int .i64 0,.int .i64 0,.int .i64 0] 125)).heap.size;rw[Waq];omega)) hb8 (by have h:(wq.alloc (.cells #[.int .i64 0,.int .i64 0,.int .i64 0,.int .i64 0] 125)).heap.size≤w7.heap.size:=hb7.size;rw[Waq] at h;exact h);have hxq:wq.heap.size≤wq.heap.size:=Wak _;obtain⟨y0,y1,y2,y3⟩:=hX.cells;have yf:=hX.frozen;have yl:=hX.lt;obtain⟨f1,f2,f3⟩:=XC (y:=((cnt p2).add cx).add ox) hX;have hSf:=hS8.trans (f2 wq.heap.size hxq);have HF1:=Hm f1;have HSf:=Hm hSf;clear f1 f2 f3 hX hSf;go_simp
         refine hK.out _ _ HSf.o (fun _=>?_);refine wpAnyH_done (by kernel_rfl) ?_ _;clear hK K
         gi_wp2_with fail
         gi_meet
         exact⟨_,rfl,by omega,HF1.o,HSq.o.then_below HSf.o,HO'.o.below HSf.o HO'.o.lt,HSf.o⟩
       case rest =>
        obtain⟨xb,rfl,hqx,hX,hSc,hOc,hBc⟩:=hcut;have HXC:Hd (((cnt p2).add cx).add ox=cnt (p2++rs.take (k+1))):=⟨by rw[HCS.o,HCA.o]⟩;have HRX2:Hd (t.runes=(p2++rs.take (k+1))++(rs.drop (k+1)++(r.runes++post))):=⟨by rw[HRX.o];simp only[Wah];rw[← Wah (rs.take (k+1)),Wbh]⟩;have HXL:Hd ((((cnt p2).add cx).add ox).l=(cnt (p2++rs.take k)).l+ox.l):=⟨by rw[HCA.o];rfl⟩;generalize ((cnt p2).add cx).add ox=xv at *;have HXc:=Hm hX;have HSc:=Hm hSc;have HOc:=Hm hOc;have HBc:=Hm hBc;obtain⟨x0,x1,x2,x3⟩:=hX.cells;obtain⟨-,-,-,o3⟩:=hOc.cells;have b0:=hSc.t.bn.cell 0;simp only[Wab,Waa] at b0;have hzz:w.heap.size+3≤z:=hSc.hz;have hlt2:=hlt;clear hX hSc hOc hBc
        by_cases hr10:rk=10
        ·have hol:ox.l=1:=by rw[HOL.o,if_pos hr10]
         have HOL1:=Hm hol;have hob:(ox.l == 1)=true:=by rw[hol];rfl
         clear hol
         by_cases hxn:xv.l=n
         ·have hxb:(xv.l == n)=true:=by rw[hxn];exact beq_self_eq_true _
          obtain⟨z0,z1,z2,z3⟩:=HSc.o.t.r0.cells;have y0:=HSc.o.t.r1.cell 0;simp only[Wab,Waa] at y0;have r0f:=HSc.o.t.r0.frozen;have r1f:=HSc.o.t.r1.frozen;have r0l:=HSc.o.t.r0.lt;have r1l:=HSc.o.t.r1.lt;have HXN:=Hm hxn;clear hxn
          gi_wp2_with fail
          obtain⟨e1,e2,e3,e4,e5⟩:=J7 HSc.o.t xv .nilIface _ rfl;refine .inr ⟨rfl,⟨e3,xv,.nilIface,e1,e2,?_⟩,by have:=HBc.o.size;exact Wbf this (Nat.le_of_eq e5.symm),fun b hb=>?_⟩
          ·exact⟨fun e=>by have:=HN.o;omega,fun _=>⟨rfl,p2++rs.take (k+1),_,HRX2.o,by rw[← HXC.o];exact HXN.o,HXC.o,.inr ⟨p2++rs.take k,by rw[HTK.o,hr10];simp⟩⟩⟩
          ·exact (e4 b (by omega) (by omega)).trans (HBc.o.block b (by omega))
         ·have hxb:(xv.l == n)=false:=by rw[Waf];exact hxn
          gi_wp2_with fail
          refine .inl ⟨rfl,⟨HB'.o.trans (HBc.o.mono HB'.o.size),?_⟩,HBc.o.size,fun b hb _=>HBc.o.block b hb⟩;have h1:=HXL.o;have h2:=HVX.o;have h3:=HOL1.o;rw[← HXC.o];omega
        ·have hol:ox.l=0:=by rw[HOL.o,if_neg hr10]
         have HOL1:=Hm hol;have hob:(ox.l == 1)=false:=by rw[hol];rfl
         clear hol
         gi_wp2_with fail
         refine .inl ⟨rfl,⟨HB'.o.trans (HBc.o.mono HB'.o.size),?_⟩,HBc.o.size,fun b hb _=>HBc.o.block b hb⟩;have h1:=HXL.o;have h2:=HVX.o;have h3:=HOL1.o;rw[← HXC.o];omega
theorem Qtk {p:Nat}{t:RT}{w:World}{n:Int}(h:AtR w p t)(hn:n<0∨(cnt t.runes).l<n) :
  Calls prog 212 #[.pointer (some ⟨p,0,none⟩),.int .i64 n] w (J6 n t.runes w):=by
 have HR:=Hm h;have HN:=Hm hn;obtain⟨tot,htot⟩:∃ x,x=cnt t.runes:=⟨_,rfl⟩;have HTOT:=Hm htot;rw[← htot] at hn;clear h htot;refine (callsIn_wide (n:=6)).1 ?_;refine callsIn_of_wp_marks func212 rfl trivial ?_ rfl
 simp only[ntmps212,List.size_toArray,Wan,List.length_nil,Nat.reduceAdd,Nat.reduceSub,Array.replicate_succ,Array.replicate_zero,List.push_toArray,List.append_toArray,Wbn,Wap];refine wpIn_wide.2 (Code.wp_mono NoPanic.imp ?_)
 by_cases h3:n<0
 ·have d3:decide (n<0)=true:=decide_eq_true h3;clear hn;go_wp2_with fail;obtain⟨s1,s2,s3,s4⟩:=Qdm w n .nilIface _ rfl;have hS:LnT w _ n:=⟨s4,s1,s2,s3⟩;clear s1 s2 s3 s4;generalize (((w.alloc (.cells #[.int .i64 n] 3)).alloc (.cells #[.int .i64 0,.int .i64 0,.int .i64 0,.int .i64 0] 125)).alloc (.cells #[.nilIface] 24))=wa at hS ⊢;have b0:=hS.bn.cell 0;simp only[Wab,Waa] at b0;have HS:=Hm hS;clear hS;have hc1:∀ d os,Calls prog 209 #[.pointer (some ⟨p,0,none⟩)] (grow (redrawn wa d) os) fun e w''=>e=.returned (.agg #[.int .i64 tot.b,.int .i64 tot.h,.int .i64 tot.r,.int .i64 tot.l])∧∃ p:Regrown,w''=grow (redrawn wa p.d) p.os:=fun d os=>by rw[HTOT.o];exact Calls.regrown_of (YB (HR.o.below (Qa HS.o.below (below_regrown wa d os))))
  have kb0:=cell_regrown b0;refine wp_region_quiet_below (by kernel_rfl) (by kernel_rfl) ?_
  repeat (quiet_step (first | exact hc1 _ _))
  refine wpQuiet_nil ?_;rintro _ ⟨⟨dq,osq⟩,rfl⟩;have HS2:=Hm (HS.o.then_below (below_regrown wa dq osq));generalize grow (redrawn wa dq) osq=wb at HS2 ⊢;clear hc1 kb0 b0 HS wa;obtain⟨z0,z1,z2,z3⟩:=HS2.o.r0.cells;have y0:=HS2.o.r1.cell 0;simp only[Wab,Waa] at y0;have r0f:=HS2.o.r0.frozen;have r1f:=HS2.o.r1.frozen;have r0l:=HS2.o.r0.lt;have r1l:=HS2.o.r1.lt;go_wp2_with fail;obtain⟨e1,e2,e3,-⟩:=J7 HS2.o Cn.zero (errno 2) _ rfl;change bodyPostM Fence.wide 6 _ _ _ Exit.ret _ _;exact Qa3 e1 e2 e3 ⟨fun _=>⟨rfl,rfl⟩,fun h=>absurd HN.o h⟩ rfl rfl rfl
 ·have i4:tot.l<n:=by omega
  have d3:decide (n<0)=false:=decide_eq_false h3;clear hn;go_wp2_with fail;obtain⟨s1,s2,s3,s4⟩:=Qdm w n .nilIface _ rfl;have hS:LnT w _ n:=⟨s4,s1,s2,s3⟩;clear s1 s2 s3 s4;generalize (((w.alloc (.cells #[.int .i64 n] 3)).alloc (.cells #[.int .i64 0,.int .i64 0,.int .i64 0,.int .i64 0] 125)).alloc (.cells #[.nilIface] 24))=wa at hS ⊢;have b0:=hS.bn.cell 0;simp only[Wab,Waa] at b0;have HS:=Hm hS;clear hS;have hc1:∀ d os,Calls prog 209 #[.pointer (some ⟨p,0,none⟩)] (grow (redrawn wa d) os) fun e w''=>e=.returned (.agg #[.int .i64 tot.b,.int .i64 tot.h,.int .i64 tot.r,.int .i64 tot.l])∧∃ p:Regrown,w''=grow (redrawn wa p.d) p.os:=fun d os=>by rw[HTOT.o];exact Calls.regrown_of (YB (HR.o.below (Qa HS.o.below (below_regrown wa d os))))
  have kb0:=cell_regrown b0;refine wp_region_quiet_below (by kernel_rfl) (by kernel_rfl) ?_
  repeat (quiet_step (first | exact hc1 _ _))
  refine wpQuiet_nil ?_;rintro _ ⟨⟨dq,osq⟩,rfl⟩;have HS2:=Hm (HS.o.then_below (below_regrown wa dq osq));generalize grow (redrawn wa dq) osq=wb at HS2 ⊢;clear hc1 kb0 b0 HS wa;obtain⟨z0,z1,z2,z3⟩:=HS2.o.r0.cells;have y0:=HS2.o.r1.cell 0;simp only[Wab,Waa] at y0;have r0f:=HS2.o.r0.frozen;have r1f:=HS2.o.r1.frozen;have r0l:=HS2.o.r0.lt;have r1l:=HS2.o.r1.lt;go_wp2_with fail;obtain⟨e1,e2,e3,-⟩:=J7 HS2.o Cn.zero (errno 2) _ rfl;change bodyPostM Fence.wide 6 _ _ _ Exit.ret _ _;exact Qa3 e1 e2 e3 ⟨fun _=>⟨rfl,rfl⟩,fun h=>absurd HN.o h⟩ rfl rfl rfl
theorem Qin {p:Nat}{t:RT}{w:World}{n:Int}(h:AtR w p t)(hg:Good t) :
  Calls prog 212 #[.pointer (some ⟨p,0,none⟩),.int .i64 n] w (J6 n t.runes w):=by
 by_cases hn:n<0∨(cnt t.runes).l<n
 ·exact Qtk h hn
 ·exact Qtj h hg (by omega)
end
section
open Go.RowKit
theorem Pl.l {u at_:Int}{R:List Int}{c:Cn}(h:Pl u at_ R c):0≤c.l∧c.l≤(cnt R).l:=by
 obtain⟨p,q,rfl,-,rfl⟩:=h;rw[QZ]
 have:=Yb p
 have:=Yb q
 omega
theorem Pl.of_le {u at_:Int}{R:List Int}{c:Cn}(h:Pl u at_ R c)(hR:R.length≤8000)(v:Int):0≤c.of v∧c.of v≤32000:=by
 obtain⟨p,q,rfl,-,rfl⟩:=h;simp only[Wad] at hR
 exact⟨QJ _ _,by have:=Go.Proofs.YtckkgdmkfbkaoaaGreatDoor.of_le (rs:=p) (n:=8000) (by omega) v;omega⟩
theorem Ln.of_le {n:Int}{R:List Int}{c:Cn}(h:Ln n R c)(hR:R.length≤8000)(v:Int):0≤c.of v∧c.of v≤32000:=by
 obtain⟨p,q,rfl,-,rfl,-⟩:=h;simp only[Wad] at hR
 exact⟨QJ _ _,by have:=Go.Proofs.YtckkgdmkfbkaoaaGreatDoor.of_le (rs:=p) (n:=8000) (by omega) v;omega⟩
attribute [local go_sem] Cn.v_eq
def SpS (W:World)(B:Nat)(w':World):Prop:=Only (fun k=>k=B) W w'∧∃ x y,Blk w' B 129 #[x,y]
abbrev SpX (W:World)(g y:Nat)(c lc:Cn)(B:Nat)(w':World):Prop:=SpS W B w'∧w'.cell? ⟨g,0,none⟩=some (.int .i64 c.b)∧w'.cell? ⟨g,1,none⟩=some (.int .i64 c.h)∧w'.cell? ⟨g,2,none⟩=some (.int .i64 c.r)∧w'.cell? ⟨g,3,none⟩=some (.int .i64 c.l) ∧
 w'.cell? ⟨y,0,none⟩=some (.int .i64 lc.b)∧w'.cell? ⟨y,1,none⟩=some (.int .i64 lc.h)∧w'.cell? ⟨y,2,none⟩=some (.int .i64 lc.r)∧w'.cell? ⟨y,3,none⟩=some (.int .i64 lc.l) ∧
 w'.cell? ⟨B,0,none⟩=some (cv w' B 0)∧w'.cell? ⟨B,1,none⟩=some (cv w' B 1)∧(∀ i,w'.frozen? ⟨B,i,none⟩=false)∧B<w'.heap.size
theorem Qc0 {W w':World}{g y B:Nat}{c lc:Cn}(hc:Qg W g c)(hl:Qg W y lc)(hg:g≠B)(hy:y≠B)(h:SpS W B w'):SpX W g y c lc B w':=by
 obtain⟨ho,a,b,hb⟩:=h;have hc':Qg w' g c:=(ho.block g hc.lt hg).trans hc;have hl':Qg w' y lc:=(ho.block y hl.lt hy).trans hl;obtain⟨q0,q1,q2,q3⟩:=hc'.cells;obtain⟨l0,l1,l2,l3⟩:=hl'.cells
 exact⟨⟨ho,a,b,hb⟩,q0,q1,q2,q3,l0,l1,l2,l3,X9 (hb.cell 0),X9 (hb.cell 1),hb.frozen,hb.lt⟩
theorem SpX.sp {W w':World}{g y B:Nat}{c lc:Cn}(h:SpX W g y c lc B w'):SpS W B w':=h.1
theorem SpS.drew {W w':World}{B:Nat}(h:SpS W B w'):SpS W B w'.drew:=⟨h.1.drew,h.2⟩
theorem SpS.call {W w' w2:World}{B:Nat}(h:SpS W B w')(hb:Below w'.heap.size w' w2):SpS W B w2:=by
 obtain⟨ho,a,b,hk⟩:=h
 exact⟨ho.then_below hb,a,b,hk.below hb hk.lt⟩
theorem SpS.store1 {W w':World}{B:Nat}(h:SpS W B w')(a b:Value):Only (fun k=>k=B) W ((w'.setCell ⟨B,0,none⟩ a).setCell ⟨B,1,none⟩ b)∧Blk ((w'.setCell ⟨B,0,none⟩ a).setCell ⟨B,1,none⟩ b) B 129 #[a,b]:=by
 obtain⟨ho,_,_,hk⟩:=h
 exact⟨(ho.setCell (p:=⟨B,0,none⟩) (.inl rfl) a).setCell (p:=⟨B,1,none⟩) (.inl rfl) b,(hk.set_ 0 a).set_ 1 b⟩
theorem SpS.store {W w':World}{B:Nat}(h:SpS W B w')(a b:Value):SpS W B ((w'.setCell ⟨B,0,none⟩ a).setCell ⟨B,1,none⟩ b):=by
 obtain⟨ho,_,_,hk⟩:=h
 exact⟨(ho.setCell (p:=⟨B,0,none⟩) (.inl rfl) a).setCell (p:=⟨B,1,none⟩) (.inl rfl) b,_,_,(hk.set_ 0 a).set_ 1 b⟩
end
section
open Go.RowKit Go.Sort
attribute [local go_sem] Cn.v_eq Qcu
end
end Go.Proofs.YtckkgdmkfbkaoaaGreatDoor
