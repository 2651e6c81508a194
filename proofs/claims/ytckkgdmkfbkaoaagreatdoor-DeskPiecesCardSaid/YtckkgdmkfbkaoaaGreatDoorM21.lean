/- Texts of the proof. -/
import Derived.Test.YtckkgdmkfbkaoaaGreatDoorM15
import Derived.Test.YtckkgdmkfbkaoaaGreatDoorM20
import Derived.Deep.DeepCutAuto
namespace Go.Proofs.YtckkgdmkfbkaoaaGreatDoor
open Go.Proofs.Tryz
set_option maxRecDepth 100000
set_option maxHeartbeats 32000000
set_option linter.all false
section
open Go.RowKit Go.Shelf Go.Sort
theorem Qjo (s:U.Bs)(w:World):Calls prog 277 #[.string ⟨s.toArray⟩] w fun e w'=>e=.returned (.func (.func 302) #[] #[.pointer (some ⟨w.heap.size,0,none⟩)])∧w'=w.alloc (.cells #[.string ⟨s.toArray⟩] 9):=by
 go_enter func277,ntmps277
 go_wp2_with fail;go_ret
 exact⟨rfl,rfl⟩
def Q3 (u at_:Int)(R:List Int)(c:Cn)(er:Value):Prop :=
 ((u<1∨3<u)→c=Cn.zero∧er=errno 1)∧(¬ (u<1∨3<u)→(at_<0∨(cnt R).of u<at_)→c=Cn.zero∧er=errno 2) ∧
  (¬ (u<1∨3<u)→¬ (at_<0∨(cnt R).of u<at_)→(er=.nilIface∧Pl u at_ R c)∨(er=errno 10∧c=Cn.zero∧∀ c',¬ Pl u at_ R c'))
def Jb (u at_:Int)(R:List Int)(w:World)(e:Ending)(w':World):Prop :=
 Below w.heap.size w w'∧∃ c er,e=.returned (.tuple #[c.v,er])∧Q3 u at_ R c er
structure AhT (w wr:World)(u at_:Int):Prop where
 bu:Blk wr w.heap.size 3 #[.int .i64 u]
 ba:Blk wr (w.heap.size+1) 3 #[.int .i64 at_]
 r0:Qg wr (w.heap.size+1+1) Cn.zero
 r1:Blk wr (w.heap.size+1+1+1) 24 #[.nilIface]
 below:Below w.heap.size w wr
theorem AhT.then_below {w wr w2:World}{u at_:Int}(h:AhT w wr u at_)(hb:Below wr.heap.size wr w2):AhT w w2 u at_ :=
 ⟨h.bu.below hb h.bu.lt,h.ba.below hb h.ba.lt,h.r0.below hb h.r0.lt,h.r1.below hb h.r1.lt,Qa h.below hb⟩
theorem Qd4 (w:World)(u at_:Int):AhT w ((((w.alloc (.cells #[.int .i64 u] 3)).alloc (.cells #[.int .i64 at_] 3)).alloc (.cells #[.int .i64 0,.int .i64 0,.int .i64 0,.int .i64 0] 125)).alloc (.cells #[.nilIface] 24)) u at_:=by
 have e1:(w.alloc (.cells #[.int .i64 u] 3)).heap.size=w.heap.size+1:=Waq _ _;have h1:=Blk.new w 3 #[.int .i64 u];have h2:=Blk.new (w.alloc (.cells #[.int .i64 u] 3)) 3 #[.int .i64 at_];have h3:=Wbc ((w.alloc (.cells #[.int .i64 u] 3)).alloc (.cells #[.int .i64 at_] 3)) (.cells #[.int .i64 0,.int .i64 0,.int .i64 0,.int .i64 0] 125);have h4:=Blk.new (((w.alloc (.cells #[.int .i64 u] 3)).alloc (.cells #[.int .i64 at_] 3)).alloc (.cells #[.int .i64 0,.int .i64 0,.int .i64 0,.int .i64 0] 125)) 24 #[.nilIface];simp only[Waq] at h2 h3 h4;have h3':Qg _ (w.heap.size+2) Cn.zero:=h3
 exact⟨((h1.alloc _).alloc _).alloc _,(h2.alloc _).alloc _,(Blk.alloc (t:=125) h3' _),h4,Qb (Qb (Qb (Qb (Wac _ _) _) _) _) _⟩
theorem Jc {w wr:World}{u at_:Int}(h:AhT w wr u at_)(c:Cn)(er:Value):∀ W',W'=(((((wr.setCell ⟨w.heap.size+1+1,0,none⟩ (.int .i64 c.b)).setCell ⟨w.heap.size+1+1,1,none⟩ (.int .i64 c.h)).setCell ⟨w.heap.size+1+1,2,none⟩ (.int .i64 c.r)).setCell ⟨w.heap.size+1+1,3,none⟩ (.int .i64 c.l)).setCell ⟨w.heap.size+1+1+1,0,none⟩ er) →
  Qg W' (w.heap.size+1+1) c∧Blk W' (w.heap.size+1+1+1) 24 #[er]∧Below w.heap.size w W'∧(∀ b,b≠w.heap.size+1+1→b≠w.heap.size+1+1+1→W'.heap[b]?=wr.heap[b]?)∧W'.heap.size=wr.heap.size:=by
 rintro W' rfl;obtain⟨h1,h2,h3⟩:=XC (y:=c) h.r0;have hr1:Blk _ (w.heap.size+1+1+1) _ _:=(h3 (w.heap.size+1+1+1) (by omega)).trans h.r1;refine⟨(Below.heap_setCell _ _ _ _ (by show w.heap.size+1+1≠w.heap.size+1+1+1;omega)).trans h1,hr1.set_ 0 er,?_,fun b hb1 hb2=>(Below.heap_setCell _ _ _ _ (by show b≠w.heap.size+1+1+1;exact hb2)).trans (h3 b hb1),by simp⟩;exact (h.below.trans (h2 _ (by omega))).setCell (p:=⟨w.heap.size+1+1+1,0,none⟩) (by show w.heap.size≤w.heap.size+1+1+1;omega) _
theorem JG {w W:World}{c:Cn}{er:Value}{u at_:Int}{R:List Int}{a:Act}{B1 B2:Nat}(h1:Qg W B1 c)(h2:Blk W B2 24 #[er])(hb:Below w.heap.size w W)(ha:Q3 u at_ R c er)
  (t6:a.tmps[6]?=some (.pointer (some ⟨B1,0,none⟩))) (t7:a.tmps[7]?=some (.pointer (some ⟨B2,0,none⟩))) (hd:a.defers=[]) :
  bodyPostM Fence.wide 6 prog Tryz.f214 (Jb u at_ R w) Exit.ret a W:=by
 obtain⟨g0,g1,g2,g3⟩:=h1.cells;have y0:=h2.cell 0;simp only[Wab,Waa] at y0
 show LeavesInM _ _ _ _ _ _ _ _ _
 rw[hd]
 exact⟨.tuple #[c.v,er],by simp[results,Tryz.f214,go_sem,t6,t7,g0,g1,g2,g3,y0],hb,c,er,rfl,ha⟩
theorem Qjp {w W:World}{c:Cn}{er:Value}{u at_:Int}{R:List Int}{a:Act}{B1 B2 bk:Nat}(h1:Qg W B1 c)(h2:Blk W B2 24 #[er])(hb:Below w.heap.size w W)(ha:Q3 u at_ R c er)
  (t6:a.tmps[6]?=some (.pointer (some ⟨B1,0,none⟩))) (t7:a.tmps[7]?=some (.pointer (some ⟨B2,0,none⟩))) (hd:a.defers=[{ target:=.collected bk,args:=#[] }]) (hk:W.heap[bk]?=some (.deferred (some []))) (hn:B1≠bk∧B2≠bk∧w.heap.size≤bk) :
  bodyPostM Fence.wide 6 prog Tryz.f214 (Jb u at_ R w) Exit.ret a W:=by
 have h1':Qg (W.putObj bk (.deferred none)) B1 c:=(World.putObj_heap_other hn.1).trans h1;have h2':Blk (W.putObj bk (.deferred none)) B2 24 #[er]:=(World.putObj_heap_other hn.2.1).trans h2;obtain⟨g0,g1,g2,g3⟩:=h1'.cells;have y0:=h2'.cell 0;simp only[Wab,Waa] at y0
 show LeavesInM _ _ _ _ _ _ _ _ _
 rw[hd];refine⟨by simp,.inl ⟨_,_,rfl,run_takeDeferred hk,?_⟩⟩
 exact⟨.tuple #[c.v,er],by simp[results,Tryz.f214,go_sem,t6,t7,g0,g1,g2,g3,y0],hb.trans (Xc _ _ _ hn.2.2),c,er,rfl,ha⟩
structure AhS (w wr:World)(z:Nat)(u at_:Int)(c:Cn):Prop where
 t:AhT w wr u at_
 bc:Qg wr z c
 hz:w.heap.size+4≤z
theorem AhS.then_below {w wr w2:World}{z:Nat}{u at_:Int}{c:Cn}(h:AhS w wr z u at_ c)(hb:Below wr.heap.size wr w2):AhS w w2 z u at_ c:=⟨h.t.then_below hb,h.bc.below hb h.bc.lt,h.hz⟩
theorem of_le {rs:List Int}{n:Nat}(h:rs.length≤n)(u:Int):(cnt rs).of u≤4*n:=by
 obtain⟨⟨b0,b1,h0,h1,r0,r1,l0,l1⟩,-,-⟩:=Zk rs;unfold Cn.of
 repeat' split
 all_goals omega
theorem AhS.belowB {w wr w2:World}{z b:Nat}{u at_:Int}{c:Cn}(h:AhS w wr z u at_ c)(hb:Below b wr w2)(hz:z<b):AhS w w2 z u at_ c:=by
 have:=h.hz
 exact⟨⟨h.t.bu.below hb (by omega),h.t.ba.below hb (by omega),h.t.r0.below hb (by omega),h.t.r1.below hb (by omega),h.t.below.trans (hb.mono (by omega))⟩,h.bc.below hb hz,h.hz⟩
def AhX (w:World)(u at_:Int)(R:List Int)(W:World):Prop :=
 Below w.heap.size w W∧∃ c er,Qg W (w.heap.size+1+1) c∧Blk W (w.heap.size+1+1+1) 24 #[er]∧Q3 u at_ R c er
structure AhL (w wr:World)(z y:Nat)(u at_:Int)(c cl:Cn):Prop where
 s:AhS w wr z u at_ c
 by_:Qg wr y cl
 zy:z<y
theorem AhL.then_below {w wr w2:World}{z y:Nat}{u at_:Int}{c cl:Cn}(h:AhL w wr z y u at_ c cl)(hb:Below wr.heap.size wr w2):AhL w w2 z y u at_ c cl:=⟨h.s.then_below hb,h.by_.below hb h.by_.lt,h.zy⟩
theorem AhL.drew {w wr:World}{z y:Nat}{u at_:Int}{c cl:Cn}(h:AhL w wr z y u at_ c cl):AhL w wr.drew z y u at_ c cl:=h.then_below (Qe (Wac _ _))
theorem AhS.set_c {w wr:World}{z:Nat}{u at_:Int}{c c':Cn}(h:AhS w wr z u at_ c) :
  AhS w ((((wr.setCell ⟨z,0,none⟩ (.int .i64 c'.b)).setCell ⟨z,1,none⟩ (.int .i64 c'.h)).setCell ⟨z,2,none⟩ (.int .i64 c'.r)).setCell ⟨z,3,none⟩ (.int .i64 c'.l)) z u at_ c':=by
 obtain⟨h1,h2,h3⟩:=XC (y:=c') h.bc;have hz:=h.hz;have hbu:=h.t.bu.lt
 exact⟨⟨(h3 _ (by omega)).trans h.t.bu,(h3 _ (by omega)).trans h.t.ba,(h3 _ (by omega)).trans h.t.r0,(h3 _ (by omega)).trans h.t.r1,h.t.below.trans (h2 _ (by omega))⟩,h1,hz⟩
attribute [local go_sem] Oper.semAt_some
theorem Qwd {p:Nat}{t:RT}{w:World}{u at_:Int}(h:AtR w p t)(hg:Good t)(hu:1≤u∧u≤3)(ha:0≤at_∧at_≤(cnt t.runes).of u) :
  Calls prog 214 #[.pointer (some ⟨p,0,none⟩),.int .i64 u,.int .i64 at_] w (Jb u at_ t.runes w):=by
 have HR:=Hm h;have HG:=Hm hg;have HU:=Hm hu;have HA:=Hm ha;obtain⟨hu1,hu2⟩:=hu;have c0:=h.blk.cell 0;have cl:=h.blk.lt;simp only[Wab,Waa,RT.ptr] at c0;have i1:¬ u<1:=by omega
 have i2:¬ 3<u:=by omega
 have i3:¬ at_<0:=by omega
 obtain⟨tot,htot⟩:∃ x,x=(cnt t.runes).of u:=⟨_,rfl⟩;have HTOT:=Hm htot;have i4:¬ tot<at_:=by omega
 have d1:decide (u<1)=false:=decide_eq_false i1;have d3:decide (at_<0)=false:=decide_eq_false i3;clear h hg ha htot;refine (callsIn_wide (n:=6)).1 ?_;refine callsIn_of_wp_marks func214 rfl trivial ?_ rfl
 simp only[ntmps214,List.size_toArray,Wan,List.length_nil,Nat.reduceAdd,Nat.reduceSub,Array.replicate_succ,Array.replicate_zero,List.push_toArray,List.append_toArray,Wbn,Wap];refine wpIn_wide.2 (Code.wp_mono NoPanic.imp ?_);go_wp2_with fail;have hS:=Qd4 w u at_;have HW0:Hd (∃ W,W=((((w.alloc (.cells #[.int .i64 u] 3)).alloc (.cells #[.int .i64 at_] 3)).alloc (.cells #[.int .i64 0,.int .i64 0,.int .i64 0,.int .i64 0] 125)).alloc (.cells #[.nilIface] 24))):=⟨⟨_,rfl⟩⟩;generalize ((((w.alloc (.cells #[.int .i64 u] 3)).alloc (.cells #[.int .i64 at_] 3)).alloc (.cells #[.int .i64 0,.int .i64 0,.int .i64 0,.int .i64 0] 125)).alloc (.cells #[.nilIface] 24))=wa at hS ⊢;clear HW0;have b0:=hS.bu.cell 0;have b1:=hS.ba.cell 0;simp only[Wab,Waa] at b0 b1;have HS:=Hm hS;clear hS;have hc1:∀ d os,Calls prog 209 #[.pointer (some ⟨p,0,none⟩)] (grow (redrawn wa d) os) fun e w''=>e=.returned (cnt t.runes).v∧∃ p:Regrown,w''=grow (redrawn wa p.d) p.os:=fun d os=>Calls.regrown_of (YB (HR.o.below (Qa HS.o.below (below_regrown wa d os))))
 have hc2:∀ d os,Calls prog 213 #[(cnt t.runes).v,.int .i64 u] (grow (redrawn wa d) os) fun e w''=>e=.returned (.int .i64 tot)∧∃ p:Regrown,w''=grow (redrawn wa p.d) p.os:=fun d os=>by rw[HTOT.o];exact Calls.regrown_of (QC _ _ _)
 have kb0:=cell_regrown b0;have kb1:=cell_regrown b1;refine wp_region_quiet_below (by kernel_rfl) (by kernel_rfl) ?_
 repeat (quiet_step (first | exact hc1 _ _ | exact hc2 _ _))
 refine wpQuiet_nil ?_;rintro _ ⟨⟨dq,osq⟩,rfl⟩;have HS2:=Hm (HS.o.then_below (below_regrown wa dq osq));generalize grow (redrawn wa dq) osq=wb at HS2 ⊢;clear hc1 hc2 kb0 kb1 b0 b1 HS wa;have hpb:=(HR.o.below HS2.o.below).blk;have p0:=hpb.cell 0;have pl:=hpb.lt;simp only[Wab,Waa,RT.ptr] at p0;have htl:t.runes.length≤8000:=by have:=QB t.runes;have:=HG.o.sz;omega
 have HTL:=Hm htl;clear hpb htl c0 cl;go_wp2_with fail;have hS0:AhS w (wb.alloc (.cells #[.int .i64 0,.int .i64 0,.int .i64 0,.int .i64 0] 125)) wb.heap.size u at_ Cn.zero:=⟨HS2.o.then_below (Qb (Wac _ _) _),Wbc wb _,by have:=HS2.o.r1.lt;omega⟩;have hz0:=hS0.hz;have HS0:=Hm hS0;clear hS0 p0 pl;obtain⟨z,hz⟩:∃ z,z=wb.heap.size:=⟨_,rfl⟩;have HZ:Hd (z=wb.heap.size):=⟨hz⟩;rw[← hz] at HS0 hz0 ⊢;clear hz;have HPT:Hd (t.pa=t.pa):=⟨rfl⟩
 go_loopg [9] t.nodes.length (fun gk n wr=>∃ (s:RT) (pre post:List Int),n=s.ptr∧AhS w wr z u at_ (cnt pre)∧AtT w s∧t.runes=pre++s.runes++post∧(cnt pre).of u≤at_∧at_≤(cnt (pre++s.runes)).of u∧s.nodes.length≤gk)
 case atStart=>exact⟨t,[],[],rfl,HS0.o,HR.o.tree,by simp,by rw[QQ,ZC];exact HA.o.1,by rw[Wbn];exact HA.o.2,Wak _⟩
 case round =>
  obtain⟨s,pre,post,rfl,hS,hat,hr,h1,h2,hgk⟩:=hrel;have HSR:=Hm hS;have HAT:=Hm hat
  have HRR:=Hm hr;have HL1:=Hm h1;have HL2:=Hm h2;have HGK:=Hm hgk;have b0:=hS.t.bu.cell 0;have b1:=hS.t.ba.cell 0;simp only[Wab,Waa] at b0 b1;obtain⟨q0,q1,q2,q3⟩:=hS.bc.cells;have bul:=hS.t.bu.lt;have bal:=hS.t.ba.lt;have bcl:=hS.bc.lt;clear hat hr h1 h2 hgk hS
  cases s with
  | nil =>
   rw[RT.ptr_nil];have r0f:=HSR.o.t.r0.frozen;have r1f:=HSR.o.t.r1.frozen;have r0l:=HSR.o.t.r0.lt;have r1l:=HSR.o.t.r1.lt;obtain⟨z0,z1,z2,z3⟩:=HSR.o.t.r0.cells;have y0:=HSR.o.t.r1.cell 0;simp only[Wab,Waa] at y0;go_wp2_with fail;obtain⟨e1,e2,e3,-⟩:=Jc HSR.o.t (cnt pre) .nilIface _ rfl;change bodyPostM Fence.wide 6 _ _ _ Exit.ret _ _;refine JG e1 e2 e3 ?_ rfl rfl rfl;have hp:=HL2.o;have hp1:=HL1.o;have hr:=HRR.o;simp only[RT.runes_nil,Wam] at hp hr
   exact⟨fun e=>by have:=HU.o;omega,fun _ e=>by have:=HA.o;omega,fun _ _=>.inl ⟨rfl,pre,post,hr,by omega,rfl⟩⟩
  | node g rs l r =>
   obtain⟨vc,hvc⟩:∃ x,x=(cnt pre).of u:=⟨_,rfl⟩;obtain⟨vl,hvl⟩:∃ x,x=(cnt l.runes).of u:=⟨_,rfl⟩;obtain⟨vo,hvo⟩:∃ x,x=(cnt rs).of u:=⟨_,rfl⟩
   have hlr:pre.length+(l.runes.length+(rs.length+r.runes.length))≤8000:=by
    have h1:=HTL.o;have h2:=HRR.o;rw[h2] at h1;simp only[RT.runes_node,Wad] at h1;omega
   have HIN:Hd ((cnt pre).In 2305843009213693952∧(cnt l.runes).In 2305843009213693952∧(cnt rs).In 2305843009213693952∧((cnt pre).add (cnt l.runes)).In 2305843009213693952):=⟨⟨Zj (by omega),Zj (by omega),Zj (by omega),by rw[← Zo];exact Zj (by simp;omega)⟩⟩;have bc1:0≤vc∧vc≤32000:=by rw[hvc];exact⟨QJ _ _,by have:=of_le (rs:=pre) (n:=8000) (by omega) u;omega⟩
   have bl1:0≤vl∧vl≤32000:=by rw[hvl];exact⟨QJ _ _,by have:=of_le (rs:=l.runes) (n:=8000) (by omega) u;omega⟩
   have bo1:0≤vo∧vo≤32000:=by rw[hvo];exact⟨QJ _ _,by have:=of_le (rs:=rs) (n:=8000) (by omega) u;omega⟩
   have ba1:0≤at_∧at_≤32000:=⟨HA.o.1,by have h1:=HA.o.2;have:=of_le (rs:=t.runes) (n:=8000) HTL.o u;omega⟩;obtain⟨bc1,bc2⟩:=bc1;obtain⟨bl1,bl2⟩:=bl1;obtain⟨bo1,bo2⟩:=bo1;obtain⟨ba1,ba2⟩:=ba1;have hw1:IntKind.i64.wrap (at_-vc)=at_-vc:=by rw[Waw]<;>omega
   have hw2:IntKind.i64.wrap (vl+vo)=vl+vo:=by rw[Waw]<;>omega
   have HVC:=Hm hvc;have HVL:=Hm hvl;have HVO:=Hm hvo;clear hvc hvl hvo hlr;have hgb:=HAT.o.1.below HSR.o.t.below HAT.o.1.lt;obtain⟨-,-,-,-,-,-,-,-,-,c9,-,-⟩:=Qv hgb;have gl:=hgb.lt;simp only[RT.ptr] at c9;rw[RT.ptr_node];clear hgb;go_wp2_with (go_at_call 261;refine (X8 (t:=l) (HAT.o.2.1.below HSR.o.t.below)).mono ?_;rintro e w1 ⟨rfl,hb1⟩;have HS1:=Hm (HSR.o.then_below hb1);clear hb1)
   have hSa:=HS1.o.then_below (Qb (Wac _ _) (.cells #[.int .i64 (cnt l.runes).b,.int .i64 (cnt l.runes).h,.int .i64 (cnt l.runes).r,.int .i64 (cnt l.runes).l] 125));have hYa:Qg _ w1.heap.size (cnt l.runes):=Wbc w1 _;have hyz:z<w1.heap.size:=HS1.o.bc.lt;obtain⟨y,hy⟩:∃ y,y=w1.heap.size:=⟨_,rfl⟩;rw[← hy] at hYa hyz ⊢;generalize w1.alloc (.cells #[.int .i64 (cnt l.runes).b,.int .i64 (cnt l.runes).h,.int .i64 (cnt l.runes).r,.int .i64 (cnt l.runes).l] 125)=wa at hSa hYa ⊢;clear hy HS1 HSR b0 b1 q0 q1 q2 q3 bul bal bcl c9 gl w1;have HY:=Hm (AhL.mk hSa hYa hyz);clear hSa hYa;obtain⟨q0,q1,q2,q3⟩:=HY.o.s.bc.cells;obtain⟨l0,l1,l2,l3⟩:=HY.o.by_.cells;have b0:=HY.o.s.t.bu.cell 0;have b1:=HY.o.s.t.ba.cell 0;simp only[Wab,Waa] at b0 b1;have hgx:=HAT.o.1.below HY.o.s.t.below HAT.o.1.lt;obtain⟨n0,n1,n2,n3,n4,-,-,-,-,n9,n10,-⟩:=Qv hgx;have gl:=hgx.lt;simp only[RT.ptr] at n9 n10;have bul:=HY.o.s.t.bu.lt;have bal:=HY.o.s.t.ba.lt;have bcl:=HY.o.s.bc.lt;have bll:=HY.o.by_.lt;clear hgx;have ka0:=cell_regrown q0;have ka1:=cell_regrown q1;have ka2:=cell_regrown q2;have ka3:=cell_regrown q3;have kl0:=cell_regrown l0;have kl1:=cell_regrown l1;have kl2:=cell_regrown l2;have kl3:=cell_regrown l3;have kb0:=cell_regrown b0;have kb1:=cell_regrown b1;have kn1:=cell_regrown n1;have kn2:=cell_regrown n2;have kn3:=cell_regrown n3;have kn4:=cell_regrown n4;have hc1:∀ d os,Calls prog 213 #[(cnt pre).v,.int .i64 u] (grow (redrawn wa d) os) fun e w''=>e=.returned (.int .i64 vc)∧∃ p:Regrown,w''=grow (redrawn wa p.d) p.os:=fun d os=>by rw[HVC.o];exact Calls.regrown_of (QC _ _ _)
   refine wp_region_quiet_below (by kernel_rfl) (by kernel_rfl) ?_
   repeat (quiet_step (first | exact hc1 _ _))
   refine wpQuiet_nil ?_;rintro _ ⟨⟨dq,osq⟩,rfl⟩;have HY2:=Hm (HY.o.then_below (below_regrown wa dq osq));generalize grow (redrawn wa dq) osq=wq at HY2 ⊢;clear ka0 ka1 ka2 ka3 kl0 kl1 kl2 kl3 kb0 kb1 kn1 kn2 kn3 kn4;clear q0 q1 q2 q3 l0 l1 l2 l3 b0 b1 n0 n1 n2 n3 n4 n9 n10 gl bul bal bcl bll;clear hc1 HY wa;obtain⟨q0,q1,q2,q3⟩:=HY2.o.s.bc.cells;obtain⟨l0,l1,l2,l3⟩:=HY2.o.by_.cells;have b0:=HY2.o.s.t.bu.cell 0;have b1:=HY2.o.s.t.ba.cell 0;simp only[Wab,Waa] at b0 b1;have hgx:=HAT.o.1.below HY2.o.s.t.below HAT.o.1.lt;obtain⟨n0,n1,n2,n3,n4,-,-,-,-,n9,n10,-⟩:=Qv hgx;have gl:=hgx.lt;simp only[RT.ptr] at n9 n10;have bul:=HY2.o.s.t.bu.lt;have bal:=HY2.o.s.t.ba.lt;have bcl:=HY2.o.s.bc.lt;have bll:=HY2.o.by_.lt;clear hgx
   by_cases hk:at_-vc<vl
   ·go_wp2_with (go_at_call 213;refine (QC (cnt l.runes) u _).mono ?_;rintro e w3 ⟨rfl,hb3⟩;rw[← HVL.o];have HY3:=Hm (HY2.o.then_below hb3);have hg3:=HAT.o.1.below HY3.o.s.t.below HAT.o.1.lt;obtain⟨-,-,-,-,-,-,-,-,-,n9,n10,-⟩:=Qv hg3;have gl:=hg3.lt;simp only[RT.ptr] at n9 n10;clear hb3 hg3)
    go_roundg l.nodes.length
    case rel=>exact⟨l,pre,rs++r.runes++post,rfl,HY3.o.s,HAT.o.2.1,by rw[HRR.o];simp,HL1.o,by rw[Qp,← HVC.o,← HVL.o];omega,Wak _⟩
    case measure=>have:=HGK.o;simp only[RT.nodes_node,Wad,Wan] at this;omega
   ·go_wp2_with (go_at_call 213;refine (QC (cnt l.runes) u _).mono ?_;rintro e w3 ⟨rfl,hb3⟩;rw[← HVL.o];have HY3:=Hm (HY2.o.then_below hb3);clear hb3)
    clear q0 q1 q2 q3 l0 l1 l2 l3 b0 b1 n0 n1 n2 n3 n4 n9 n10 gl bul bal bcl bll;obtain⟨q0,q1,q2,q3⟩:=HY3.o.s.bc.cells;obtain⟨l0,l1,l2,l3⟩:=HY3.o.by_.cells;have b0:=HY3.o.s.t.bu.cell 0;have b1:=HY3.o.s.t.ba.cell 0;simp only[Wab,Waa] at b0 b1;have hgx:=HAT.o.1.below HY3.o.s.t.below HAT.o.1.lt;obtain⟨n0,n1,n2,n3,n4,-,-,-,-,n9,n10,-⟩:=Qv hgx;have gl:=hgx.lt;simp only[RT.ptr] at n9 n10;have bul:=HY3.o.s.t.bu.lt;have bal:=HY3.o.s.t.ba.lt;have bcl:=HY3.o.s.bc.lt;have bll:=HY3.o.by_.lt;have bcf:=HY3.o.s.bc.frozen;clear hgx;have ka0:=cell_regrown q0;have ka1:=cell_regrown q1;have ka2:=cell_regrown q2;have ka3:=cell_regrown q3;have kl0:=cell_regrown l0;have kl1:=cell_regrown l1;have kl2:=cell_regrown l2;have kl3:=cell_regrown l3;have kb0:=cell_regrown b0;have kb1:=cell_regrown b1;have kn1:=cell_regrown n1;have kn2:=cell_regrown n2;have kn3:=cell_regrown n3;have kn4:=cell_regrown n4;have hc1:∀ d os,Calls prog 213 #[(cnt l.runes).v,.int .i64 u] (grow (redrawn w3 d) os) fun e w''=>e=.returned (.int .i64 vl)∧∃ p:Regrown,w''=grow (redrawn w3 p.d) p.os:=fun d os=>by rw[HVL.o];exact Calls.regrown_of (QC _ _ _)
    have hc2:∀ d os,Calls prog 213 #[(cnt rs).v,.int .i64 u] (grow (redrawn w3 d) os) fun e w''=>e=.returned (.int .i64 vo)∧∃ p:Regrown,w''=grow (redrawn w3 p.d) p.os:=fun d os=>by rw[HVO.o];exact Calls.regrown_of (QC _ _ _)
    refine wp_region_quiet_below (by kernel_rfl) (by kernel_rfl) ?_
    repeat (quiet_step (first | (go_at_call_of 213 (cnt l.runes);exact hc1 _ _) | (go_at_call_of 213 (cnt rs);exact hc2 _ _)))
    refine wpQuiet_nil ?_;rintro _ ⟨⟨dq3,osq3⟩,rfl⟩;have HY4:=Hm (HY3.o.then_below (below_regrown w3 dq3 osq3));generalize grow (redrawn w3 dq3) osq3=w4 at HY4 ⊢;clear ka0 ka1 ka2 ka3 kl0 kl1 kl2 kl3 kb0 kb1 kn1 kn2 kn3 kn4;clear q0 q1 q2 q3 l0 l1 l2 l3 b0 b1 n0 n1 n2 n3 n4 n9 n10 gl bul bal bcl bll bcf;clear hc1 hc2 HY3 w3 HY2 wq;obtain⟨q0,q1,q2,q3⟩:=HY4.o.s.bc.cells;obtain⟨l0,l1,l2,l3⟩:=HY4.o.by_.cells;have b0:=HY4.o.s.t.bu.cell 0;have b1:=HY4.o.s.t.ba.cell 0;simp only[Wab,Waa] at b0 b1;have hgx:=HAT.o.1.below HY4.o.s.t.below HAT.o.1.lt;obtain⟨n0,n1,n2,n3,n4,-,-,-,-,n9,n10,-⟩:=Qv hgx;have gl:=hgx.lt;simp only[RT.ptr] at n9 n10;have bul:=HY4.o.s.t.bu.lt;have bal:=HY4.o.s.t.ba.lt;have bcl:=HY4.o.s.bc.lt;have bll:=HY4.o.by_.lt;have bcf:=HY4.o.s.bc.frozen;clear hgx
    by_cases hk2:vl+vo<at_-vc
    ·go_wp2_with fail
     go_region_with (first
      | (go_at_call_of 182 (cnt rs);refine (Zm ((cnt pre).add (cnt l.runes)) (cnt rs) _ HIN.o.2.2.2 HIN.o.2.2.1).mono ?_;rintro e w6 ⟨rfl,hb6⟩;have HY6:=Hm (HY5.o.then_below hb6);clear hb6;obtain⟨q0,q1,q2,q3⟩:=HY6.o.s.bc.cells;obtain⟨l0,l1,l2,l3⟩:=HY6.o.by_.cells;have b0:=HY6.o.s.t.bu.cell 0;have b1:=HY6.o.s.t.ba.cell 0;simp only[Wab,Waa] at b0 b1;have hgx:=HAT.o.1.below HY6.o.s.t.below HAT.o.1.lt;obtain⟨n0,n1,n2,n3,n4,-,-,-,-,n9,n10,-⟩:=Qv hgx;have gl:=hgx.lt;simp only[RT.ptr] at n9 n10;have bul:=HY6.o.s.t.bu.lt;have bal:=HY6.o.s.t.ba.lt;have bcl:=HY6.o.s.bc.lt;have bll:=HY6.o.by_.lt;have bcf:=HY6.o.s.bc.frozen;clear hgx)
      | (go_at_call_of 182 (cnt l.runes);refine (Zm (cnt pre) (cnt l.runes) _ HIN.o.1 HIN.o.2.1).mono ?_;rintro e w5 ⟨rfl,hb5⟩;have HY5:=Hm (HY4.o.drew.then_below hb5);clear hb5;obtain⟨q0,q1,q2,q3⟩:=HY5.o.s.bc.cells;obtain⟨l0,l1,l2,l3⟩:=HY5.o.by_.cells;have b0:=HY5.o.s.t.bu.cell 0;have b1:=HY5.o.s.t.ba.cell 0;simp only[Wab,Waa] at b0 b1;have hgx:=HAT.o.1.below HY5.o.s.t.below HAT.o.1.lt;obtain⟨n0,n1,n2,n3,n4,-,-,-,-,n9,n10,-⟩:=Qv hgx;have gl:=hgx.lt;simp only[RT.ptr] at n9 n10;have bul:=HY5.o.s.t.bu.lt;have bal:=HY5.o.s.t.ba.lt;have bcl:=HY5.o.s.bc.lt;have bll:=HY5.o.by_.lt;have bcf:=HY5.o.s.bc.frozen;clear hgx))
     all_goals
      have HS7:=Hm (HY6.o.s.set_c (c':=((cnt pre).add (cnt l.runes)).add (cnt rs)));generalize ((((w6.setCell ⟨z,0,none⟩ (.int .i64 (((cnt pre).add (cnt l.runes)).add (cnt rs)).b)).setCell ⟨z,1,none⟩ (.int .i64 (((cnt pre).add (cnt l.runes)).add (cnt rs)).h)).setCell ⟨z,2,none⟩ (.int .i64 (((cnt pre).add (cnt l.runes)).add (cnt rs)).r)).setCell ⟨z,3,none⟩ (.int .i64 (((cnt pre).add (cnt l.runes)).add (cnt rs)).l))=w7 at HS7 ⊢;have hg7:=HAT.o.1.below HS7.o.t.below HAT.o.1.lt;clear q0 q1 q2 q3 l0 l1 l2 l3 b0 b1 n0 n1 n2 n3 n4 n9 n10 gl bul bal bcl bll bcf;obtain⟨-,-,-,-,-,-,-,-,-,-,n10,-⟩:=Qv hg7;have gl:=hg7.lt;simp only[RT.ptr] at n10;clear hg7;go_wp2_with fail
      go_roundg r.nodes.length
      case rel=>exact⟨r,pre++l.runes++rs,post,rfl,by rw[Zo,Zo];exact HS7.o,HAT.o.2.2,by rw[HRR.o];simp,by rw[Qp,Qp,← HVC.o,← HVL.o,← HVO.o];omega,by have:=HL2.o;simp only[RT.runes_node,← Wah] at this;exact this,Wak _⟩
      case measure=>have:=HGK.o;simp only[RT.nodes_node,Wad,Wan] at this;omega
    ·go_upto_region 16 with (first
      | (go_at_call 182;refine (Zm (cnt pre) (cnt l.runes) _ HIN.o.1 HIN.o.2.1).mono ?_;rintro e w5 ⟨rfl,hb5⟩;have HS5:=Hm (HY4.o.s.then_below hb5);clear hb5;clear q0 q1 q2 q3 l0 l1 l2 l3 b0 b1 n0 n1 n2 n3 n4 n9 n10 gl bul bal bcl bll bcf;obtain⟨q0,q1,q2,q3⟩:=HS5.o.bc.cells;have bcf:=HS5.o.bc.frozen;have bcl:=HS5.o.bc.lt))
     have HS6:=Hm (HS5.o.set_c (c':=(cnt pre).add (cnt l.runes)));generalize ((((w5.setCell ⟨z,0,none⟩ (.int .i64 ((cnt pre).add (cnt l.runes)).b)).setCell ⟨z,1,none⟩ (.int .i64 ((cnt pre).add (cnt l.runes)).h)).setCell ⟨z,2,none⟩ (.int .i64 ((cnt pre).add (cnt l.runes)).r)).setCell ⟨z,3,none⟩ (.int .i64 ((cnt pre).add (cnt l.runes)).l))=w6 at HS6 ⊢;clear q0 q1 q2 q3 bcf bcl HS5 HY4 w4;have hg6:=HAT.o.1.below HS6.o.t.below HAT.o.1.lt;obtain⟨n0,-⟩:=Qv hg6;have gl:=hg6.lt;clear hg6;go_wp2_with (go_at_call 277;refine (Qjo (U.encs rs) _).mono ?_;rintro e w' ⟨rfl,rfl⟩)
     have HPC:Hd ((cnt pre).add (cnt l.runes)=cnt (pre++l.runes)):=⟨(Zo _ _).symm⟩;rw[HPC.o] at HS6;have HRX:Hd (t.runes=(pre++l.runes)++(rs++(r.runes++post))):=⟨by rw[HRR.o];simp⟩;have HVP:Hd ((cnt (pre++l.runes)).of u=vc+vl):=⟨by rw[Qp,HVC.o,HVL.o]⟩;have HLP:Hd ((pre++l.runes).length+rs.length≤8000):=⟨by have h1:=HTL.o;rw[HRX.o] at h1;simp only[Wad] at h1 ⊢;omega⟩;have HALL:Hd (U.AllR rs):=⟨fun x hx=>HG.o.all x (by rw[HRX.o];simp[hx])⟩;have HVO2:Hd (vo=(cnt rs).of u):=HVO;generalize pre++l.runes=p2 at *;have hSB:Blk (w6.alloc (.cells #[.string ⟨(U.encs rs).toArray⟩] 9)) w6.heap.size 9 #[.string ⟨(U.encs rs).toArray⟩]:=Blk.new _ _ _;have hS7:=HS6.o.then_below (Qb (Wac _ _) (.cells #[.string ⟨(U.encs rs).toArray⟩] 9));have hz6:z<w6.heap.size:=HS6.o.bc.lt;have hg7:=HAT.o.1.below hS7.t.below HAT.o.1.lt;generalize hsb:w6.heap.size=sB at *;generalize w6.alloc (.cells #[.string ⟨(U.encs rs).toArray⟩] 9)=wz at hSB hS7 hg7 ⊢;have hsz:=hSB.lt;have HSB:=Hm hSB;have HS7:=Hm hS7;have HG7:=Hm hg7;clear hSB hS7 hg7 HS6 hsb w6 n0 gl;refine (wpIn_wide (n:=6)).1 ?_;have HSPP:Hd (U.Sp (U.encs rs) rs []):=⟨U.sp_encs HALL.o⟩;have hel:(U.encs rs).length≤1000000:=by have h1:=HG.o.sz;rw[HRX.o] at h1;simp only[bl_append] at h1;have:(U.encs rs).length=bl rs:=rfl;omega
     refine Qez (gf:=302) (lb:=#[.pointer (some ⟨sB,0,none⟩)]) (xs:=fun k=>#[(cnt (rs.take k)).v,(Q7 (rs[k]?.getD 0) (U.wid (rs[k]?.getD 0))).v]) (N:=rs.length) (iB:=z) rfl (enters_of func302 (by kernel_rfl) rfl) (by omega)
      (fun l J Jx W hb hJ hY h0=>Qhd 5 l sB z HSPP.o hel J Jx W (by omega) (HSB.o.below hb HSB.o.lt) (by have:=hb.size;omega) (by omega) hJ (fun k A hk hj=>by have:=hY k A hk hj;simpa [hk] using this) h0)
      (fun _=>rfl) (fun k W=>Below wz.heap.size wz W∧(cnt (p2++rs.take k)).of u≤at_) (AhX w u at_ t.runes)
      (fun k A B h hb=>⟨h.1.trans (hb.mono (by omega)),h.2⟩) ?hx ⟨Wac _ _,?h0⟩ ?round ?done ?left
     case hx =>
      rintro A B ⟨h1,c,er,h2,h3,h4⟩ hb
      have:=HS7.o.hz
      exact⟨h1.trans (hb.mono (by omega)),c,er,h2.below hb (by omega),h3.below hb (by omega),h4⟩
     case h0=>rw[List.take_zero,Wam,HVP.o];omega
     case round =>
      rintro l k W hk ⟨hbW,hvx⟩ hlt;have hvk:=hvx
      gi_wp2_with fail
      refine⟨Qb (Qb (Wac _ _) _) _,fun o=>?_⟩;have HK:Hd (rs=rs.take k++rs[k] :: rs.drop (k+1)):=⟨by rw[← Wbl hk,Wbh]⟩;have HCS:Hd (cnt (p2++rs.take (k+1))=(cnt (p2++rs.take k)).add (Q7 rs[k] (U.wid rs[k]))):=⟨by rw[Wag hk,← Wah,YM]⟩;have HCA:Hd ((cnt p2).add (cnt (rs.take k))=cnt (p2++rs.take k)):=⟨(Zo _ _).symm⟩;have htk:(rs.take k).length≤rs.length:=by rw[Wbb];omega
      have HCI:Hd ((cnt p2).In 2305843009213693952∧(cnt (rs.take k)).In 2305843009213693952):=⟨⟨Zj (by have:=HLP.o;omega),Zj (by have:=HLP.o;omega)⟩⟩;obtain⟨vx,hvx2⟩:∃ x,x=(cnt (p2++rs.take k)).of u:=⟨_,rfl⟩;obtain⟨vn,hvn⟩:∃ x,x=(Q7 rs[k] (U.wid rs[k])).of u:=⟨_,rfl⟩;have hvn1:1≤vn:=by rw[hvn];exact Qfk _ HU.o
      have hvn2:vn≤4:=by
       obtain⟨b0,b1,h0,h1,r0,r1,l0,l1⟩:=Qa6 rs[k];rw[hvn];unfold Cn.of
       repeat' split
       all_goals omega
      rw[← hvx2] at hvk;have hvx0:0≤vx:=by rw[hvx2];exact QJ _ _
      have HVX:=Hm hvx2;have HVN:=Hm hvn;clear hvx2 hvn hvx htk;generalize hrk:rs[k]=rk at *;have HRK:=Hm hrk;clear hrk;generalize cnt (rs.take k)=cx at *;generalize hox:Q7 rk (U.wid rk)=ox at *;have HOX:=Hm hox;clear hox;have hA:Qg (((W.alloc (.cells #[.int .i64 cx.b,.int .i64 cx.h,.int .i64 cx.r,.int .i64 cx.l] 125)).alloc (.cells #[.int .i64 ox.b,.int .i64 ox.h,.int .i64 ox.r,.int .i64 ox.l] 125)).putObj (wz.heap.size+1) o) W.heap.size cx:=(World.putObj_heap_other (by omega)).trans ((Blk.new W 125 _).alloc _)
      have hO:Qg (((W.alloc (.cells #[.int .i64 cx.b,.int .i64 cx.h,.int .i64 cx.r,.int .i64 cx.l] 125)).alloc (.cells #[.int .i64 ox.b,.int .i64 ox.h,.int .i64 ox.r,.int .i64 ox.l] 125)).putObj (wz.heap.size+1) o) (W.heap.size+1) ox:=(World.putObj_heap_other (by omega)).trans (by
       have h:=Wbc (W.alloc (.cells #[.int .i64 cx.b,.int .i64 cx.h,.int .i64 cx.r,.int .i64 cx.l] 125)) (.cells #[.int .i64 ox.b,.int .i64 ox.h,.int .i64 ox.r,.int .i64 ox.l] 125);rw[Waq] at h;exact h)
      have hB:Below wz.heap.size wz (((W.alloc (.cells #[.int .i64 cx.b,.int .i64 cx.h,.int .i64 cx.r,.int .i64 cx.l] 125)).alloc (.cells #[.int .i64 ox.b,.int .i64 ox.h,.int .i64 ox.r,.int .i64 ox.l] 125)).putObj (wz.heap.size+1) o):=hbW.trans (((Qb (Qb (Wac W.heap.size W) _) _).mono (by omega)).trans (Xc _ _ _ (by omega)));have hq2:W.heap.size+1<(((W.alloc (.cells #[.int .i64 cx.b,.int .i64 cx.h,.int .i64 cx.r,.int .i64 cx.l] 125)).alloc (.cells #[.int .i64 ox.b,.int .i64 ox.h,.int .i64 ox.r,.int .i64 ox.l] 125)).putObj (wz.heap.size+1) o).heap.size:=by simp
      generalize (((W.alloc (.cells #[.int .i64 cx.b,.int .i64 cx.h,.int .i64 cx.r,.int .i64 cx.l] 125)).alloc (.cells #[.int .i64 ox.b,.int .i64 ox.h,.int .i64 ox.r,.int .i64 ox.l] 125)).putObj (wz.heap.size+1) o)=wq at *;generalize W.heap.size=q at *;clear hbW;have HSq:=Hm (HS7.o.belowB hB (by omega));have HA':=Hm hA;have HO':=Hm hO;have HB':=Hm hB;obtain⟨a0,a1,a2,a3⟩:=hA.cells;obtain⟨q0,q1,q2,q3⟩:=HSq.o.bc.cells;have bcl:=HSq.o.bc.lt;clear hA hO hB
      gi_wp2_with fail
      refine⟨trivial,CallsIn.inRound l ((callsIn_wide.2 (Zm (cnt p2) cx _ HCI.o.1 HCI.o.2)).mono ?_)⟩;rintro e wp ⟨rfl,hbp⟩;rw[HCA.o];have HSp:=Hm (HSq.o.then_below hbp);have HOp:=Hm (HO'.o.below hbp HO'.o.lt);have HBp:=Hm (hbp.size);have HBz:=Hm (HB'.o.trans (hbp.mono HB'.o.size));have HKp:=Hm hbp;clear hbp;generalize hxk:cnt (p2++rs.take k)=xk at *;have HXK:=Hm hxk;clear hxk a0 a1 a2 a3 q0 q1 q2 q3 bcl
      gi_wp2_with fail
      have hX:Qg (wp.alloc (.cells #[.int .i64 xk.b,.int .i64 xk.h,.int .i64 xk.r,.int .i64 xk.l] 125)) wp.heap.size xk:=Wbc wp _;have hbx:Below wp.heap.size wp (wp.alloc (.cells #[.int .i64 xk.b,.int .i64 xk.h,.int .i64 xk.r,.int .i64 xk.l] 125)):=Qb (Wac _ _) _;have HSx:=Hm (HSp.o.then_below hbx);have HOx:=Hm (HOp.o.below hbx HOp.o.lt);have HBx:=Hm (HBz.o.trans (hbx.mono HBz.o.size));have HKx:=Hm (Qa HKp.o hbx);generalize wp.alloc (.cells #[.int .i64 xk.b,.int .i64 xk.h,.int .i64 xk.r,.int .i64 xk.l] 125)=wx at *;have hqp:q+1<wp.heap.size:=by have:=HBp.o;omega
      generalize wp.heap.size=xb at *;have HX:=Hm hX;have b0:=HSx.o.t.bu.cell 0;have b1:=HSx.o.t.ba.cell 0;simp only[Wab,Waa] at b0 b1;obtain⟨x0,x1,x2,x3⟩:=hX.cells;clear hX hbx;have kx0:=cell_regrown x0;have kx1:=cell_regrown x1;have kx2:=cell_regrown x2;have kx3:=cell_regrown x3;have kb0:=cell_regrown b0;have kb1:=cell_regrown b1;have hcp:∀ d os,CallsIn Fence.wide 3 prog 213 #[xk.v,.int .i64 u] (grow (redrawn wx d) os) fun e w''=>e=.returned (.int .i64 vx)∧∃ p:Regrown,w''=grow (redrawn wx p.d) p.os:=fun d os=>by rw[HVX.o];exact CallsIn.regrown_of (callsIn_wide.2 (QC xk u _))
      refine Qjg (by kernel_rfl) (by kernel_rfl) (by kernel_rfl) ?_
      repeat (refine wpQuietIn_step (fun _ _ _ _=>trivial) (fun K hK=>?_);go_simp;first | (refine hK _ ?_;clear hK K) | (apply Exists.intro;refine⟨fun _=>?_,hK _ ?_⟩;(first | exact⟨fun h=>absurd h (by decide),hcp _ _⟩ | exact hcp _ _ | exact⟨rfl,fun h=>absurd h (by decide),hcp _ _⟩);clear hK K))
      refine wpQuietIn_nil ?_;rintro _ ⟨⟨dx,osx⟩,rfl⟩;have hbg:=below_regrown wx dx osx;generalize grow (redrawn wx dx) osx=wv at hbg ⊢;clear kx0 kx1 kx2 kx3 kb0 kb1 hcp x0 x1 x2 x3 b0 b1;have HSv:=Hm (HSx.o.then_below hbg);have HOv:=Hm (HOx.o.below hbg HOx.o.lt);have HXv:=Hm (HX.o.below hbg HX.o.lt);have HKv:=Hm (Qa HKx.o hbg);have HBv:=Hm (HBx.o.trans (hbg.mono HBx.o.size));have hzz:w.heap.size+4≤z:=HSv.o.hz;clear hbg HSx HOx HX HKx HBx HSp HOp HBp HBz HKp HSq HO' HA'
      by_cases hq1:vx=at_
      ·have hqb:(vx == at_)=true:=by rw[hq1];exact beq_self_eq_true _
       obtain⟨x0,x1,x2,x3⟩:=HXv.o.cells;have xl:=HXv.o.lt;obtain⟨z0,z1,z2,z3⟩:=HSv.o.t.r0.cells;have y0:=HSv.o.t.r1.cell 0;simp only[Wab,Waa] at y0;have r0f:=HSv.o.t.r0.frozen;have r1f:=HSv.o.t.r1.frozen;have r0l:=HSv.o.t.r0.lt;have r1l:=HSv.o.t.r1.lt
       gi_wp2_with fail
       obtain⟨e1,e2,e3,e4,e5⟩:=Jc HSv.o.t xk .nilIface _ rfl;refine .inr ⟨rfl,⟨e3,xk,.nilIface,e1,e2,?_⟩,by rw[e5];exact HKv.o.size,fun b hb=>?_⟩
       ·exact⟨fun e=>by have:=HU.o;omega,fun _ e=>by have:=HA.o;omega,fun _ _=>.inl ⟨rfl,p2++rs.take k,rs.drop k++(r.runes++post),by rw[HRX.o];simp only[Wah];rw[← Wah (rs.take k),Wbh],by rw[HXK.o,← HVX.o,hq1],HXK.o.symm⟩⟩
       ·rw[e4 b (by omega) (by omega)];exact HKv.o.block b (by omega)
      ·have hqb:(vx == at_)=false:=by rw[Waf];exact hq1
       have hw3:IntKind.i64.wrap (vx+vn)=vx+vn:=by rw[Waw]<;>omega
       have hxlt:vx<at_:=by omega
       gi_wp2_with fail
       have b0:=HSv.o.t.bu.cell 0;have b1:=HSv.o.t.ba.cell 0;simp only[Wab,Waa] at b0 b1;obtain⟨x0,x1,x2,x3⟩:=HXv.o.cells;obtain⟨o0,o1,o2,o3⟩:=HOv.o.cells;have kx0:=cell_regrown x0;have kx1:=cell_regrown x1;have kx2:=cell_regrown x2;have kx3:=cell_regrown x3;have ko0:=cell_regrown o0;have ko1:=cell_regrown o1;have ko2:=cell_regrown o2;have ko3:=cell_regrown o3;have kb0:=cell_regrown b0;have kb1:=cell_regrown b1;have hcp:∀ d os,CallsIn Fence.wide 3 prog 213 #[xk.v,.int .i64 u] (grow (redrawn wv d) os) fun e w''=>e=.returned (.int .i64 vx)∧∃ p:Regrown,w''=grow (redrawn wv p.d) p.os:=fun d os=>by rw[HVX.o];exact CallsIn.regrown_of (callsIn_wide.2 (QC xk u _))
       have hco:∀ d os,CallsIn Fence.wide 3 prog 213 #[ox.v,.int .i64 u] (grow (redrawn wv d) os) fun e w''=>e=.returned (.int .i64 vn)∧∃ p:Regrown,w''=grow (redrawn wv p.d) p.os:=fun d os=>by rw[HVN.o];exact CallsIn.regrown_of (callsIn_wide.2 (QC ox u _))
       refine Qjg (by kernel_rfl) (by kernel_rfl) (by kernel_rfl) ?_
       iterate 2 (refine wpQuietIn_step (fun _ _ _ _=>trivial) (fun K hK=>?_);go_simp;refine hK _ ?_;clear hK K)
       refine wpQuietIn_step (fun _ _ _ _=>trivial) (fun K hK=>?_);go_simp;apply Exists.intro;refine⟨fun _=>?_,hK _ ?_⟩;(first | exact hcp _ _ | exact⟨rfl,fun h=>absurd h (by decide),hcp _ _⟩ | exact⟨fun h=>absurd h (by decide),hcp _ _⟩);clear hK K
       iterate 2 (refine wpQuietIn_step (fun _ _ _ _=>trivial) (fun K hK=>?_);go_simp;refine hK _ ?_;clear hK K)
       refine wpQuietIn_step (fun _ _ _ _=>trivial) (fun K hK=>?_);go_simp;apply Exists.intro;refine⟨fun _=>?_,hK _ ?_⟩;(first | exact hco _ _ | exact⟨rfl,fun h=>absurd h (by decide),hco _ _⟩ | exact⟨fun h=>absurd h (by decide),hco _ _⟩);clear hK K
       iterate 3 (refine wpQuietIn_step (fun _ _ _ _=>trivial) (fun K hK=>?_);go_simp;refine hK _ ?_;clear hK K)
       refine wpQuietIn_nil ?_;rintro _ ⟨⟨dx2,osx2⟩,rfl⟩;have hbg:=below_regrown wv dx2 osx2;generalize grow (redrawn wv dx2) osx2=wu at hbg ⊢;clear kx0 kx1 kx2 kx3 ko0 ko1 ko2 ko3 kb0 kb1 hcp hco x0 x1 x2 x3 o0 o1 o2 o3 b0 b1;have HSu:=Hm (HSv.o.then_below hbg);have HKu:=Hm (Qa HKv.o hbg);have HBu:=Hm (HBv.o.trans (hbg.mono HBv.o.size));clear hbg HSv HOv HXv HKv HBv
       by_cases hgt:at_<vx+vn
       ·obtain⟨z0,z1,z2,z3⟩:=HSu.o.t.r0.cells;have y0:=HSu.o.t.r1.cell 0;simp only[Wab,Waa] at y0;have r0f:=HSu.o.t.r0.frozen;have r1f:=HSu.o.t.r1.frozen;have r0l:=HSu.o.t.r0.lt;have r1l:=HSu.o.t.r1.lt
        gi_wp2_with fail
        obtain⟨e1,e2,e3,e4,e5⟩:=Jc HSu.o.t Cn.zero (errno 10) _ rfl;refine .inr ⟨rfl,⟨e3,Cn.zero,errno 10,e1,e2,?_⟩,by have:=HKu.o.size;exact Wbf this (Nat.le_of_eq e5.symm),fun b hb=>?_⟩
        ·refine⟨fun e=>by have:=HU.o;omega,fun _ e=>by have:=HA.o;omega,fun _ _=>.inr ⟨rfl,rfl,fun c'=>?_⟩⟩
         have e6:t.runes=(p2++rs.take k)++rk :: (rs.drop (k+1)++(r.runes++post)):=by
          rw[HRX.o]
          conv=>lhs;rw[HK.o]
          simp
         rw[e6];refine Qmx HU.o (by rw[HXK.o,← HVX.o];exact hxlt) ?_;rw[YM,HXK.o,HOX.o,JZ,← HVX.o,← HVN.o];exact hgt
        ·exact (e4 b (by omega) (by omega)).trans (HKu.o.block b (by omega))
       ·gi_wp2_with fail
        refine .inl ⟨rfl,⟨HBu.o,?_⟩,HKu.o.size,fun b hb _=>HKu.o.block b hb⟩;rw[HCS.o,JZ,← HVX.o,← HVN.o];omega
     case done =>
      rintro W ⟨hbW,hvW⟩ hD;rw[Wbe] at hvW;have hSW:=HS7.o.belowB hbW (by omega);have hgW:=HG7.o.below hbW HG7.o.lt;have hzz:w.heap.size+4≤z:=hSW.hz;have HSW:=Hm hSW;have HDW:=Hm hD;have hend:at_=(cnt (p2++rs)).of u:=by rw[Qp,HVP.o,← HVO.o] at hvW ⊢;omega
      have HEND:=Hm hend;have HIP:Hd ((cnt p2).In 2305843009213693952):=⟨Zj (by have:=HLP.o;omega)⟩;obtain⟨-,n1,n2,n3,n4,-⟩:=Qv hgW;have gl:=hgW.lt;obtain⟨q0,q1,q2,q3⟩:=hSW.bc.cells;have bcl:=hSW.bc.lt;obtain⟨z0,z1,z2,z3⟩:=hSW.t.r0.cells;have y0:=hSW.t.r1.cell 0;simp only[Wab,Waa] at y0;have r0f:=hSW.t.r0.frozen;have r1f:=hSW.t.r1.frozen;have r0l:=hSW.t.r0.lt;have r1l:=hSW.t.r1.lt;clear hend hvW hSW hgW hD hbW;go_wp2_with fail;go_region_with (go_at_call 182;refine (Zm (cnt p2) (cnt rs) _ HIP.o HIN.o.2.2.1).mono ?_;rintro e w8 ⟨rfl,hb8⟩;have HS8:=Hm (HSW.o.then_below (Qeb hb8));have HD8:=Hm ((hb8.block _ (Wbm.1 HDW.o).1).trans HDW.o);clear hb8;clear n1 n2 n3 n4 gl q0 q1 q2 q3 bcl z0 z1 z2 z3 y0 r0f r1f r0l r1l;obtain⟨z0,z1,z2,z3⟩:=HS8.o.t.r0.cells;have y0:=HS8.o.t.r1.cell 0;simp only[Wab,Waa] at y0;have r0f:=HS8.o.t.r0.frozen;have r1f:=HS8.o.t.r1.frozen;have r0l:=HS8.o.t.r0.lt;have r1l:=HS8.o.t.r1.lt)
      all_goals
       go_wp2_with fail;obtain⟨e1,e2,e3,e4,e5⟩:=Jc HS8.o.t ((cnt p2).add (cnt rs)) .nilIface _ rfl;change bodyPostM Fence.wide 6 _ _ _ Exit.ret _ _;refine Qjp e1 e2 e3 ?_ rfl rfl rfl ((e4 _ (by omega) (by omega)).trans HD8.o) ⟨by omega,by omega,by omega⟩
       exact⟨fun e=>by have:=HU.o;omega,fun _ e=>by have:=HA.o;omega,fun _ _=>.inl ⟨rfl,p2++rs,r.runes++post,by rw[HRX.o];simp,HEND.o.symm,(Zo _ _).symm⟩⟩
     case left =>
      rintro W ⟨hbW,c,er,h1,h2,h3⟩ hD;have hzz:w.heap.size+4≤z:=HS7.o.hz;change bodyPostM Fence.wide 6 _ _ _ Exit.ret _ _;exact Qjp h1 h2 hbW h3 rfl rfl rfl hD ⟨by omega,by omega,by omega⟩
end
section
open Go.RowKit Go.Shelf Go.Sort
theorem Qg2 (w:World)(u at_:Int)(er:Value):∀ W,W=((((w.alloc (.cells #[.int .i64 u] 3)).alloc (.cells #[.int .i64 at_] 3)).alloc (.cells #[.int .i64 0,.int .i64 0,.int .i64 0,.int .i64 0] 125)).alloc (.cells #[er] 24)) →
  Qg W (w.heap.size+1+1) Cn.zero∧Blk W (w.heap.size+1+1+1) 24 #[er]∧Below w.heap.size w W:=by
 rintro W rfl;have h3:=Wbc ((w.alloc (.cells #[.int .i64 u] 3)).alloc (.cells #[.int .i64 at_] 3)) (.cells #[.int .i64 0,.int .i64 0,.int .i64 0,.int .i64 0] 125);have h4:=Blk.new (((w.alloc (.cells #[.int .i64 u] 3)).alloc (.cells #[.int .i64 at_] 3)).alloc (.cells #[.int .i64 0,.int .i64 0,.int .i64 0,.int .i64 0] 125)) 24 #[er];simp only[Waq] at h3 h4;have h3':Qg _ (w.heap.size+1+1) Cn.zero:=h3
 exact⟨Blk.alloc (t:=125) h3' _,h4,Qb (Qb (Qb (Qb (Wac _ _) _) _) _) _⟩
theorem Qqb {p:Nat}{t:RT}{w:World}{u at_:Int}(hu:u<1∨3<u) :
  Calls prog 214 #[.pointer (some ⟨p,0,none⟩),.int .i64 u,.int .i64 at_] w (Jb u at_ t.runes w):=by
 have HU:=Hm hu;refine (callsIn_wide (n:=6)).1 ?_;refine callsIn_of_wp_marks func214 rfl trivial ?_ rfl
 simp only[ntmps214,List.size_toArray,Wan,List.length_nil,Nat.reduceAdd,Nat.reduceSub,Array.replicate_succ,Array.replicate_zero,List.push_toArray,List.append_toArray,Wbn,Wap];refine wpIn_wide.2 (Code.wp_mono NoPanic.imp ?_)
 by_cases h1:u<1
 ·clear hu;go_wp2_with fail;obtain⟨e1,e2,e3⟩:=Qg2 w u at_ (errno 1) _ rfl;change bodyPostM Fence.wide 6 _ _ _ Exit.ret _ _;exact JG e1 e2 e3 ⟨fun _=>⟨rfl,rfl⟩,fun h=>absurd HU.o h,fun h=>absurd HU.o h⟩ rfl rfl rfl
 ·have h2:3<u:=by omega
  clear hu;go_wp2_with fail;obtain⟨e1,e2,e3⟩:=Qg2 w u at_ (errno 1) _ rfl;change bodyPostM Fence.wide 6 _ _ _ Exit.ret _ _;exact JG e1 e2 e3 ⟨fun _=>⟨rfl,rfl⟩,fun h=>absurd HU.o h,fun h=>absurd HU.o h⟩ rfl rfl rfl
theorem Qqc {p:Nat}{t:RT}{w:World}{u at_:Int}(h:AtR w p t)(hu:1≤u∧u≤3)(ha:at_<0∨(cnt t.runes).of u<at_) :
  Calls prog 214 #[.pointer (some ⟨p,0,none⟩),.int .i64 u,.int .i64 at_] w (Jb u at_ t.runes w):=by
 have HR:=Hm h;have HU:=Hm hu;have HA:=Hm ha;obtain⟨hu1,hu2⟩:=hu;have i1:¬ u<1:=by omega
 have i2:¬ 3<u:=by omega
 obtain⟨tot,htot⟩:∃ x,x=(cnt t.runes).of u:=⟨_,rfl⟩;have HTOT:=Hm htot;rw[← htot] at ha;have d1:decide (u<1)=false:=decide_eq_false i1;clear h htot;refine (callsIn_wide (n:=6)).1 ?_;refine callsIn_of_wp_marks func214 rfl trivial ?_ rfl
 simp only[ntmps214,List.size_toArray,Wan,List.length_nil,Nat.reduceAdd,Nat.reduceSub,Array.replicate_succ,Array.replicate_zero,List.push_toArray,List.append_toArray,Wbn,Wap];refine wpIn_wide.2 (Code.wp_mono NoPanic.imp ?_)
 by_cases h3:at_<0
 ·have d3:decide (at_<0)=true:=decide_eq_true h3;clear ha;go_wp2_with fail;have hS:=Qd4 w u at_;generalize ((((w.alloc (.cells #[.int .i64 u] 3)).alloc (.cells #[.int .i64 at_] 3)).alloc (.cells #[.int .i64 0,.int .i64 0,.int .i64 0,.int .i64 0] 125)).alloc (.cells #[.nilIface] 24))=wa at hS ⊢;have b0:=hS.bu.cell 0;have b1:=hS.ba.cell 0;simp only[Wab,Waa] at b0 b1;have HS:=Hm hS;clear hS;have hc1:∀ d os,Calls prog 209 #[.pointer (some ⟨p,0,none⟩)] (grow (redrawn wa d) os) fun e w''=>e=.returned (cnt t.runes).v∧∃ p:Regrown,w''=grow (redrawn wa p.d) p.os:=fun d os=>Calls.regrown_of (YB (HR.o.below (Qa HS.o.below (below_regrown wa d os))))
  have hc2:∀ d os,Calls prog 213 #[(cnt t.runes).v,.int .i64 u] (grow (redrawn wa d) os) fun e w''=>e=.returned (.int .i64 tot)∧∃ p:Regrown,w''=grow (redrawn wa p.d) p.os:=fun d os=>by rw[HTOT.o];exact Calls.regrown_of (QC _ _ _)
  have kb0:=cell_regrown b0;have kb1:=cell_regrown b1;refine wp_region_quiet_below (by kernel_rfl) (by kernel_rfl) ?_
  repeat (quiet_step (first | exact hc1 _ _ | exact hc2 _ _))
  refine wpQuiet_nil ?_;rintro _ ⟨⟨dq,osq⟩,rfl⟩;have HS2:=Hm (HS.o.then_below (below_regrown wa dq osq));generalize grow (redrawn wa dq) osq=wb at HS2 ⊢;clear hc1 hc2 kb0 kb1 b0 b1 HS wa;obtain⟨z0,z1,z2,z3⟩:=HS2.o.r0.cells;have y0:=HS2.o.r1.cell 0;simp only[Wab,Waa] at y0;have r0f:=HS2.o.r0.frozen;have r1f:=HS2.o.r1.frozen;have r0l:=HS2.o.r0.lt;have r1l:=HS2.o.r1.lt;go_wp2_with fail;obtain⟨e1,e2,e3,-⟩:=Jc HS2.o Cn.zero (errno 2) _ rfl;change bodyPostM Fence.wide 6 _ _ _ Exit.ret _ _;exact JG e1 e2 e3 ⟨fun e=>by have:=HU.o;omega,fun _ _=>⟨rfl,rfl⟩,fun _ h=>absurd HA.o h⟩ rfl rfl rfl
 ·have i4:tot<at_:=by omega
  have d3:decide (at_<0)=false:=decide_eq_false h3;clear ha;go_wp2_with fail;have hS:=Qd4 w u at_;generalize ((((w.alloc (.cells #[.int .i64 u] 3)).alloc (.cells #[.int .i64 at_] 3)).alloc (.cells #[.int .i64 0,.int .i64 0,.int .i64 0,.int .i64 0] 125)).alloc (.cells #[.nilIface] 24))=wa at hS ⊢;have b0:=hS.bu.cell 0;have b1:=hS.ba.cell 0;simp only[Wab,Waa] at b0 b1;have HS:=Hm hS;clear hS;have hc1:∀ d os,Calls prog 209 #[.pointer (some ⟨p,0,none⟩)] (grow (redrawn wa d) os) fun e w''=>e=.returned (cnt t.runes).v∧∃ p:Regrown,w''=grow (redrawn wa p.d) p.os:=fun d os=>Calls.regrown_of (YB (HR.o.below (Qa HS.o.below (below_regrown wa d os))))
  have hc2:∀ d os,Calls prog 213 #[(cnt t.runes).v,.int .i64 u] (grow (redrawn wa d) os) fun e w''=>e=.returned (.int .i64 tot)∧∃ p:Regrown,w''=grow (redrawn wa p.d) p.os:=fun d os=>by rw[HTOT.o];exact Calls.regrown_of (QC _ _ _)
  have kb0:=cell_regrown b0;have kb1:=cell_regrown b1;refine wp_region_quiet_below (by kernel_rfl) (by kernel_rfl) ?_
  repeat (quiet_step (first | exact hc1 _ _ | exact hc2 _ _))
  refine wpQuiet_nil ?_;rintro _ ⟨⟨dq,osq⟩,rfl⟩;have HS2:=Hm (HS.o.then_below (below_regrown wa dq osq));generalize grow (redrawn wa dq) osq=wb at HS2 ⊢;clear hc1 hc2 kb0 kb1 b0 b1 HS wa;obtain⟨z0,z1,z2,z3⟩:=HS2.o.r0.cells;have y0:=HS2.o.r1.cell 0;simp only[Wab,Waa] at y0;have r0f:=HS2.o.r0.frozen;have r1f:=HS2.o.r1.frozen;have r0l:=HS2.o.r0.lt;have r1l:=HS2.o.r1.lt;go_wp2_with fail;obtain⟨e1,e2,e3,-⟩:=Jc HS2.o Cn.zero (errno 2) _ rfl;change bodyPostM Fence.wide 6 _ _ _ Exit.ret _ _;exact JG e1 e2 e3 ⟨fun e=>by have:=HU.o;omega,fun _ _=>⟨rfl,rfl⟩,fun _ h=>absurd HA.o h⟩ rfl rfl rfl
theorem Jt {p:Nat}{t:RT}{w:World}{u at_:Int}(h:AtR w p t)(hg:Good t) :
  Calls prog 214 #[.pointer (some ⟨p,0,none⟩),.int .i64 u,.int .i64 at_] w (Jb u at_ t.runes w):=by
 by_cases hu:u<1∨3<u
 ·exact Qqb hu
 ·by_cases ha:at_<0∨(cnt t.runes).of u<at_
  ·exact Qqc h (by omega) ha
  ·exact Qwd h hg (by omega) (by omega)
end
section
open Go.RowKit
def erV (k:Int):Value:=if k=0 then .nilIface else errno k
theorem ZN {k:Int}(h:k≠0):erV k=errno k:=if_neg h
theorem Xw {a b:Int}(h:erV a=erV b):a=b:=by
 unfold erV at h
 split at h<;>split at h
 ·omega
 ·cases h
 ·cases h
 ·unfold errno at h;injection h with h1 h2;injection h2
theorem Q3.unique {u at_:Int}{R:List Int}{c c':Cn}{er er':Value}(h:Q3 u at_ R c er)(h':Q3 u at_ R c' er'):c=c'∧er=er':=by
 obtain⟨h1,h2,h3⟩:=h;obtain⟨k1,k2,k3⟩:=h'
 by_cases hu:u<1∨3<u
 ·exact⟨(h1 hu).1.trans (k1 hu).1.symm,(h1 hu).2.trans (k1 hu).2.symm⟩
 ·by_cases ha:at_<0∨(cnt R).of u<at_
  ·exact⟨(h2 hu ha).1.trans (k2 hu ha).1.symm,(h2 hu ha).2.trans (k2 hu ha).2.symm⟩
  ·rcases h3 hu ha with ⟨e1,e2⟩ | ⟨e1,e2,e3⟩<;>rcases k3 hu ha with ⟨f1,f2⟩ | ⟨f1,f2,f3⟩
   ·exact⟨e2.unique (by omega) f2,e1.trans f1.symm⟩
   ·exact absurd e2 (f3 _)
   ·exact absurd f2 (e3 _)
   ·exact⟨e2.trans f2.symm,e1.trans f1.symm⟩
theorem Qd5 {w:World}{g:Nat}{z:Cn}(h:Qg w g z)(c:Cn):Qg ((((w.setCell ⟨g,0,none⟩ (.int .i64 c.b)).setCell ⟨g,1,none⟩ (.int .i64 c.h)).setCell ⟨g,2,none⟩ (.int .i64 c.r)).setCell ⟨g,3,none⟩ (.int .i64 c.l)) g c:=by
 have h':Blk w g 125 #[.int .i64 z.b,.int .i64 z.h,.int .i64 z.r,.int .i64 z.l]:=h;exact (((h'.set_ 0 (.int .i64 c.b)).set_ 1 (.int .i64 c.h)).set_ 2 (.int .i64 c.r)).set_ 3 (.int .i64 c.l)
theorem Qd6 {w w5:World}{x y z u:Value}(h:Below w.heap.size w w5):Below w.heap.size w ((((w5.setCell ⟨w.heap.size,0,none⟩ x).setCell ⟨w.heap.size,1,none⟩ y).setCell ⟨w.heap.size,2,none⟩ z).setCell ⟨w.heap.size,3,none⟩ u) :=
 (((h.setCell (p:=⟨w.heap.size,0,none⟩) (Wak _) _).setCell (p:=⟨w.heap.size,1,none⟩) (Wak _) _).setCell (p:=⟨w.heap.size,2,none⟩) (Wak _) _).setCell (p:=⟨w.heap.size,3,none⟩) (Wak _) _
theorem JH {u at_:Int}{R:List Int}{c:Cn}{er:Value}(h:Q3 u at_ R c er):(er=.nilIface∧Pl u at_ R c∧¬ (u<1∨3<u)∧¬ (at_<0∨(cnt R).of u<at_))∨∃ k,er=errno k∧c=Cn.zero∧1≤k∧∀ c',¬ (Pl u at_ R c'∧1≤u∧u≤3):=by
 obtain⟨h1,h2,h3⟩:=h
 by_cases hu:u<1∨3<u
 ·exact .inr ⟨1,(h1 hu).2,(h1 hu).1,by omega,fun c' e=>by omega⟩
 ·by_cases ha:at_<0∨(cnt R).of u<at_
  ·exact .inr ⟨2,(h2 hu ha).2,(h2 hu ha).1,by omega,fun c' e=>by have:=e.1.range;omega⟩
  ·rcases h3 hu ha with ⟨e1,e2⟩ | ⟨e1,e2,e3⟩
   ·exact .inl ⟨e1,e2,hu,ha⟩
   ·exact .inr ⟨10,e1,e2,by omega,fun c' e=>e3 c' e.1⟩
theorem Qd7 {w:World}{g:Nat}{ty:TypeId}{x y z:Value}(h:Blk w g ty #[x,y,z]):w.cell? ⟨g,0,none⟩=some x∧w.cell? ⟨g,1,none⟩=some y∧w.cell? ⟨g,2,none⟩=some z:=by
 have z0:=h.cell 0;have z1:=h.cell 1;have z2:=h.cell 2;simp only[Wab,Waa,Wae] at z0 z1 z2
 exact⟨z0,z1,z2⟩
end
end Go.Proofs.YtckkgdmkfbkaoaaGreatDoor
