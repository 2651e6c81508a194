/- Texts of the proof. -/
import Derived.Test.YtckkgdmkfbkaoaaGreatDoorM52
import Derived.Test.YtckkgdmkfbkaoaaGreatDoorM6
namespace Go.Proofs.YtckkgdmkfbkaoaaGreatDoor
open Go.Proofs.Tryz
set_option maxRecDepth 100000
set_option maxHeartbeats 32000000
set_option linter.all false
section
open Go.RowKit Go.Sort
def Qdy (X:Nat→Prop)(D:Nat)(r:RP)(x:Bs × RM)(w:World)(e:Ending)(w':World):Prop:=e=.returned (.string ⟨x.1.toArray⟩)∧DkS X D r x.2 w w'
theorem Qve (w:World):PredGrows prog 56 #[] (fun n=>n == 32) w:=fun W x _ _=>(Qmr x W).mono fun _ _ ⟨h1,h2⟩=>⟨h1,h2 ▸ Wac _ _⟩
theorem Qvf (s:Bs):(Lib.goFieldsP (fun n=>n == 32) ⟨s.toArray⟩).map Value.string=svs (QY s):=by
 unfold svs QY;rw[List.map_map];exact List.map_congr_left (fun x _=>rfl)
theorem Qjb (s:Bs):(Lib.goFieldsP (fun n=>n == 32) ⟨s.toArray⟩).length=(QY s).length:=by unfold QY;rw[Wbi]
def Qdz (s:Bs)(w:World)(e:Ending)(w':World):Prop:=Below w.heap.size w w'∧∃ A,w.heap.size≤A∧e=.returned (.slice (some ⟨A,0,none⟩) (QY s).length (QY s).length)∧Sl w' 1 (.slice (some ⟨A,0,none⟩) (QY s).length (QY s).length) (QY s).length (svs (QY s))
theorem Qjc {s:Bs}(hs:s.length≤50000)(w:World):Calls prog 55 #[.string ⟨s.toArray⟩,.func (.func 56) #[] #[]] w (Qdz s w):=by
 refine (Qnu 56 #[] (enters_of func56 (by kernel_rfl) rfl) (fun n=>n == 32) ⟨s.toArray⟩ w (by simp[ByteArray.size];omega) (Qve w)).mono ?_;rintro e w' ⟨A,rfl,hA,hown,hb⟩;rw[Qjb,Qvf] at hown
 exact⟨hb,A,hA,by rw[Qjb],Sl.of_own hown⟩
section
variable {X:Nat→Prop}{w w':World}{D:Nat}{r:RP}{R:RM}{n:Nat}{s:Bs}
theorem DkS.finish {X1:Nat→Prop}{R':RM}{w1 w3 w4:World}{v:Value}(hb:Below w.heap.size w w1)(h:DkS X1 D r R' w1 w3)(h4:Below w3.heap.size w3 w4)(hX:∀ j,X j→X1 j)(hO:X1 w.heap.size):DkS X D r R' w (w4.setCell ⟨w.heap.size,0,none⟩ v):=by
 obtain⟨r',h1,h2,h3⟩:=h;have ho:Only (fun j=>j=w.heap.size) w4 (w4.setCell ⟨w.heap.size,0,none⟩ v):=(Only.refl (fun j=>j=w.heap.size) w4).setCell (p:=⟨w.heap.size,0,none⟩) (.inl rfl) _;have hd:=((h1.below h4).aside ho (fun j e=>by rw[e];exact hO)).wider (X':=X) (Wac _ _) (fun j e=>.inl (hX j e));refine⟨r',hd,?_,h3.mono hb.size⟩;exact (((Only.of_below hb).trans h2).then_below h4).setCell (p:=⟨w.heap.size,0,none⟩) (.inr (Wak _)) _
theorem DkS.cellO {X1:Nat→Prop}{R':RM}{w1 w3:World}{O:Nat}{o:Nat}(h:DkS X1 D r R' w1 w3)(hl:O<w1.heap.size)(h1:O≠D)(h2:¬ r.F O):w3.cell? ⟨O,o,none⟩=w1.cell? ⟨O,o,none⟩∧w3.frozen? ⟨O,o,none⟩=w1.frozen? ⟨O,o,none⟩∧O<w3.heap.size:=by
 obtain⟨r',-,ho,-⟩:=h;have hb:=ho.block O hl (fun e=>e.elim h1 h2)
 exact⟨World.cell?_of_block hb,by simp only[World.frozen?,hb],Wal hl ho.size⟩
theorem DkS.gl {X1:Nat→Prop}{R':RM}{w1 w3:World}(h:DkS X1 D r R' w1 w3):Glo w3:=by obtain⟨r',h1,-⟩:=h;exact h1.gl
theorem Qvg {l:List Bs}{v:Value}(h:DkI X w D r R n)(hv:WrdI w r v l)(hne:∀ s∈l,s≠[])(hll:l.length≤100000)(k:Kw):Calls prog (kwF k) #[.pointer (some ⟨D,0,none⟩),v] w (QS X D r (kwW R l k) w):=by
 cases k with
 | begin=>exact Qs3 h hv
 | count=>exact Qp3 h hv
 | deliver=>exact Qm9 h hv
 | edit=>exact Qqp h hv hne hll
 | help=>exact Quk h hv
 | lose=>exact Qm8 h hv
 | many=>exact Quj h hv
 | place=>exact Qwn h hv
 | quiet=>exact Qui h hv
 | rev=>exact Qun h hv
 | seen=>exact Qum h hv
 | send=>exact Qnb h hv
 | server=>exact Qp1 h hv
 | spot=>exact Qwm h hv
 | text=>exact Qul h hv
 | twice=>exact Qna h hv
theorem Qvh (k:Kw):∀ args w,(callFunc (kwF k) args).run prog w=.ok (.enter (kwF k) args) w:=by
 cases k<;>exact enters_of (by first
  | exact func16
  | exact func95
  | exact func96
  | exact func97
  | exact func98
  | exact func99
  | exact func100
  | exact func101
  | exact func102
  | exact func103
  | exact func104
  | exact func105
  | exact func106
  | exact func107
  | exact func108
  | exact func109) (by kernel_rfl) rfl
theorem Qvi (h:DkI X w D r R n)(hs:s.length≤50000)(hf:QY s=[]):Calls prog 20 #[.pointer (some ⟨D,0,none⟩),.string ⟨s.toArray⟩] w (Qdy X D r (QT R s) w):=by
 have hmf:∀ (fn:Fn) (first cap:Array Value) (w:World),(Instr.makeFunc fn first cap).run prog w=.ok (.func fn first cap) w:=fun _ _ _ _=>rfl
 have H:=Hm h;obtain⟨w1,hw1⟩:∃ W,W=w.alloc (.cells #[.string ⟨#[]⟩] 9):=⟨_,rfl⟩;have hb1:Below w.heap.size w w1:=by rw[hw1];exact Qb (Wac _ _) _
 have hz1:w1.heap.size=w.heap.size+1:=by rw[hw1];exact Waq _ _
 have HF:=Hm (Qjc hs w1);unfold Qdz at HF;rw[hf] at HF;have hk1:Blk w1 w.heap.size 9 #[.string ⟨#[]⟩]:=by rw[hw1];exact Blk.new w _ _
 have HB1:=Hm (Wao hb1 (Wao hz1 hk1));have HW:Hd (QT R s=([111,107],R)):=⟨by unfold QT;rw[hf];rfl⟩;clear h hb1 hz1 hk1 hf;go_enter_defers func20,ntmps20
 go_wp2_with fail;rw[← hw1];refine HF.o.mono ?_;rintro e w2 ⟨hb2,A,hA,rfl,-⟩;have hk2:=HB1.o.2.2.below hb2 HB1.o.2.2.lt;have hO2:=hk2.cell 0;have hOf:=hk2.frozen 0;have hOl:=hk2.lt;simp only[Wab,Waa] at hO2;have HB2:=Hm (Wao hb2 hk2);clear hb2 hk2 hA;go_wp2
 refine leaves_cons (f:=53) (args:=#[.pointer (some ⟨w.heap.size,0,none⟩)]) (by simp) (by simp[go_sem]) ?_;refine (Qfc (p:=⟨w.heap.size,0,none⟩)).mono ?_;rintro e u' w3 ⟨rfl,rfl,rfl⟩;have hc3:(w2.setCell ⟨w.heap.size,0,none⟩ (.string ⟨#[111,107]⟩)).cell? ⟨w.heap.size,0,none⟩=some (.string ⟨#[111,107]⟩):=World.cell?_setCell_same _ _ _ hO2;refine⟨.string ⟨#[111,107]⟩,by simp[results,results20,go_sem,hc3],?_,?_⟩
 ·rw[HW.o]
 ·rw[HW.o];exact DkS.of_below H.o.dk ((Qa HB1.o.1 HB2.o.1).setCell (p:=⟨w.heap.size,0,none⟩) (Wak _) _)
theorem WrdI.below {v:Value}{l:List Bs}(h:WrdI w r v l)(hb:Below w.heap.size w w'):WrdI w' r v l:=⟨h.sl.below hb,h.ln,h.sz,h.ap⟩
theorem Qvj {t:Bs}{l:List Bs}{A:Nat}{w1 w2:World}(hr:RmR w (DF X r) r R)(hz:w.heap.size≤w1.heap.size)(hs:s.length≤50000)(hf:QY s=t :: l)(hA:w1.heap.size≤A)(hsl:Sl w2 1 (.slice (some ⟨A,0,none⟩) (l.length+1) (l.length+1)) (l.length+1) (svs (t :: l))) :
  WrdI w2 r (.slice (some ⟨A,0,none⟩) (l.length+1) (l.length+1)) (t :: l)∧(∀ x∈l,x≠[]∧x.length≤1000000)∧l.length≤100000:=by
 obtain⟨h1,h2⟩:=Qjk s;rw[hf] at h1 h2;simp only[Wan] at h2;refine⟨⟨hsl,by simp;omega,fun x hx=>by have:=(h1 x hx).2;omega,fun ad n' c' e hF=>?_⟩,fun x hx=>⟨(h1 x (by simp[hx])).1,by have:=(h1 x (by simp[hx])).2;omega⟩,by omega⟩
 cases e
 have:=hr.lt _ hF
 dsimp only at this;omega
theorem Qvk {t:Bs}{l:List Bs}(h:DkI X w D r R n)(hs:s.length≤50000)(hf:QY s=t :: l):Calls prog 20 #[.pointer (some ⟨D,0,none⟩),.string ⟨s.toArray⟩] w (Qdy X D r (QT R s) w):=by
 have hmf:∀ (fn:Fn) (first cap:Array Value) (w:World),(Instr.makeFunc fn first cap).run prog w=.ok (.func fn first cap) w:=fun _ _ _ _=>rfl
 have hq1:∀ (f:Fn) (a b:Array Value) (w:World),(binOp .eql 52 (.func f a b) .nilFunc).run prog w=.ok (.bool false) w:=fun _ _ _ _=>by kernel_rfl
 have hq2:∀ (w:World),(binOp .eql 52 .nilFunc .nilFunc).run prog w=.ok (.bool true) w:=fun _=>by kernel_rfl
 have H:=Hm h;obtain⟨w1,hw1⟩:∃ W,W=w.alloc (.cells #[.string ⟨#[]⟩] 9):=⟨_,rfl⟩;have hb1:Below w.heap.size w w1:=by rw[hw1];exact Qb (Wac _ _) _
 have hz1:w1.heap.size=w.heap.size+1:=by rw[hw1];exact Waq _ _
 have HF:=Hm (Qjc hs w1);unfold Qdz at HF;rw[hf] at HF;simp only[Wan] at HF;have hk1:Blk w1 w.heap.size 9 #[.string ⟨#[]⟩]:=by rw[hw1];exact Blk.new w _ _
 have HB1:=Hm (Wao hb1 (Wao hz1 hk1));have HWA:=fun A w2=>Hm (Qvj (A:=A) (w1:=w1) (w2:=w2) h.dk.rm (by omega) hs hf)
 have HM:=fun W e=>Hm (fun hg=>ZE (w:=W) (e:=e) hg)
 have hlw:QT R s=(YF (Z4 R t l),(Z4 R t l).2.2):=by unfold QT;rw[hf];rfl
 obtain⟨m,hm⟩:∃ m,m=l.length:=⟨_,rfl⟩;rw[← hm] at HF HWA;have HML:=Hm hm;clear h hb1 hz1 hk1 hf hs hm
 cases hkw:Jv t with
 | none =>
  have HV:Hd (Xi D t=.nilFunc):=⟨by unfold Xi;rw[hkw]⟩;have HW:Hd (QT R s=(X4 3,R)):=⟨by rw[hlw];unfold Z4;rw[hkw];rfl⟩;clear hlw hkw;go_enter_defers func20,ntmps20
  go_wp2_with fail;rw[← hw1];refine HF.o.mono ?_;rintro e w2 ⟨hb2,A,hA,rfl,hsl⟩;obtain⟨hwd,-,hll⟩:=(HWA A w2).out hA hsl;obtain⟨b,o,c,e,blt,bc,-⟩:=hwd.at_ (k:=0) (s:=t) rfl
  cases e
  rw[Nat.add_zero] at bc;have hk2:=HB1.o.2.2.below hb2 HB1.o.2.2.lt;have HB2:=Hm (Wao hb2 hk2);clear hb2 hk2 hA hsl hwd
  go_wp2_with (first
   | (go_at_call 57;refine (Qel D t _).mono ?_;rintro e w3 ⟨rfl,hb3⟩;rw[HV.o];have HB3:=Hm hb3;clear hb3)
   | (go_at_call 49;refine ((HM _ 3).out (H.o.dk.gl.below (Qa (Qa HB1.o.1 HB2.o.1) HB3.o)).hdl).mono ?_;rintro e w4 ⟨rfl,hb4⟩;have hx4:=Qa HB3.o hb4;have HB4:=Hm hx4;have hk4:=HB2.o.2.below hx4 HB2.o.2.lt;have HK4:=Hm hk4;clear hb4 hx4 hk4))
  have hk4:=HK4.o;have hO4:=hk4.cell 0;simp only[Wab,Waa] at hO4;have hB4:=Qa (Qa HB1.o.1 HB2.o.1) HB4.o;refine leaves_cons (f:=53) (args:=#[.pointer (some ⟨w.heap.size,0,none⟩)]) (by simp) (by simp[go_sem]) ?_;refine (Qfb (p:=⟨w.heap.size,0,none⟩) (e:=3) (by omega) hO4 (hk4.frozen 0) (H.o.dk.gl.below hB4)).mono ?_;rintro e u' w5 ⟨rfl,rfl,w6,hb6,rfl⟩;have hc6:w6.cell? ⟨w.heap.size,0,none⟩=some (.string ⟨#[]⟩):=(hb6.cell (p:=⟨w.heap.size,0,none⟩) hk4.lt).trans hO4;have hc7:=World.cell?_setCell_same w6 ⟨w.heap.size,0,none⟩ (.string ⟨(X4 3).toArray⟩) hc6;refine⟨.string ⟨(X4 3).toArray⟩,by simp[results,results20,go_sem,hc7],?_,?_⟩
  ·rw[HW.o]
  ·rw[HW.o];exact DkS.of_below H.o.dk ((Qa hB4 hb6).setCell (p:=⟨w.heap.size,0,none⟩) (Wak _) _)
 | some k =>
  obtain⟨K,hK⟩:∃ K,K=kwF k:=⟨_,rfl⟩;have HV:Hd (Xi D t=.func (.func K) #[.pointer (some ⟨D,0,none⟩)] #[]):=⟨by unfold Xi;rw[hkw,hK]⟩;have hent:=Qvh k;rw[← hK] at hent;obtain⟨cm,hcm⟩:∃ cm,cm=kwW R l k:=⟨_,rfl⟩;have HW:Hd (QT R s=(YF cm,cm.2.2)):=⟨by rw[hlw];unfold Z4;rw[hkw,hcm]⟩;have HCM:=Hm (Wao hK hcm);have hd1:DkI (fun j=>X j∨j=w.heap.size) w1 D r R n:=⟨H.o.dk.wider HB1.o.1 (fun j e=>e.imp_right (fun e=>by have:=HB1.o.2.1;omega)),H.o.ok,H.o.nn⟩;have HD1:=Hm hd1;have HNO:Hd (w.heap.size≠D∧¬ r.F w.heap.size):=⟨by have:=H.o.dk.bx.lt;omega,fun e=>by have:=H.o.dk.rm.lt _ e;omega⟩;clear hlw hkw hK hcm hd1;go_enter_defers func20,ntmps20
  go_wp2_with fail;rw[← hw1];refine HF.o.mono ?_;rintro e w2 ⟨hb2,A,hA,rfl,hsl⟩;obtain⟨hwd,hwo,hll⟩:=(HWA A w2).out hA hsl;obtain⟨b,o,c,e,blt,bc,-⟩:=hwd.at_ (k:=0) (s:=t) rfl
  cases e
  rw[Nat.add_zero] at bc;have hwr:=hwd.rest;obtain⟨A2,c2,hsv⟩:=hwr.form
  have hrun:∀ W,(Instr.sliceAt 22 (.slice (some ⟨A,0,none⟩) (l.length+1) (l.length+1)) (some (.int .i64 1)) none none).run prog W=.ok (.slice A2 l.length c2) W:=fun W=>by
   have:=Jo XY (A:=some ⟨A,0,none⟩) (n:=l.length+1) (c:=l.length+1) (k:=1) (w:=W) (by omega)
   rw[hsv] at this;exact this
  rw[hsv] at hwr;have hk2:=HB1.o.2.2.below hb2 HB1.o.2.2.lt
  have hOD:∀ W,Below w2.heap.size w2 W→CmOk (n+1) cm∧Calls prog K #[.pointer (some ⟨D,0,none⟩),.slice A2 l.length c2] W (QS (fun j=>X j∨j=w.heap.size) D r cm W):=fun W hb=>by
   rw[HCM.o.1,HCM.o.2]
   exact⟨Qe4 H.o.ok (by have:=H.o.nn;omega) (fun x hx=>(hwo x hx).2) k,Qvg ((HD1.o.below hb2).below hb) (hwr.below hb) (fun x hx=>(hwo x hx).1) hll k⟩
  have HOD:=Hm hOD;have HB2:=Hm (Wao hb2 hk2);have hme:=hll;clear hb2 hk2 hA hsl hwd hwr hwo hll hsv hOD;go_wp2_with (go_at_call 57;refine (Qel D t _).mono ?_;rintro e w3 ⟨rfl,hb3⟩;rw[HV.o];have HB3:=Hm hb3;clear hb3)
  by_cases he:cm.1=0
  ·have HE:=Hm he;clear he;go_wp2_with fail;refine (HOD.o _ HB3.o).2.mono ?_;rintro e w4 ⟨h4,-,hds⟩;obtain rfl:=h4 HE.o;have hk3:=HB2.o.2.below HB3.o HB2.o.2.lt;obtain⟨q1,q2,q3⟩:=hds.cellO (O:=w.heap.size) (o:=0) hk3.lt HNO.o.1 HNO.o.2;have hO4:w4.cell? ⟨w.heap.size,0,none⟩=some (.string ⟨#[]⟩):=q1.trans ((hk3.cell 0).trans rfl);have hf4:w4.frozen? ⟨w.heap.size,0,none⟩=false:=q2.trans (hk3.frozen 0);have HDS:=Hm hds;clear h4 hds hk3 q1 q2;go_wp2
   refine leaves_cons (f:=53) (args:=#[.pointer (some ⟨w.heap.size,0,none⟩)]) (by simp) (by simp[go_sem]) ?_;refine (Qfc (p:=⟨w.heap.size,0,none⟩)).mono ?_;rintro e u' w5 ⟨rfl,rfl,rfl⟩;have hc5:=World.cell?_setCell_same w4 ⟨w.heap.size,0,none⟩ (.string ⟨cm.2.1.toArray⟩) hO4;refine⟨.string ⟨cm.2.1.toArray⟩,by simp[results,results20,go_sem,hc5],?_,?_⟩
   ·rw[HW.o];unfold YF;rw[if_pos HE.o]
   ·rw[HW.o];exact DkS.finish (X1:=fun j=>X j∨j=w.heap.size) (Qa (Qa HB1.o.1 HB2.o.1) HB3.o) HDS.o (Wac _ _) (fun _ e=>.inl e) (.inr rfl)
  ·have HE:=Hm he;clear he;go_wp2_with fail;refine (HOD.o _ HB3.o).2.mono ?_;rintro e w4 ⟨-,h4,hds⟩;obtain rfl:=h4 HE.o;have hk3:=HB2.o.2.below HB3.o HB2.o.2.lt;obtain⟨q1,q2,q3⟩:=hds.cellO (O:=w.heap.size) (o:=0) hk3.lt HNO.o.1 HNO.o.2;have hO4:w4.cell? ⟨w.heap.size,0,none⟩=some (.string ⟨#[]⟩):=q1.trans ((hk3.cell 0).trans rfl);have hf4:w4.frozen? ⟨w.heap.size,0,none⟩=false:=q2.trans (hk3.frozen 0);have hec:=(HOD.o _ HB3.o).1.e;refine leaves_cons (f:=53) (args:=#[.pointer (some ⟨w.heap.size,0,none⟩)]) (by simp) (by simp[go_sem]) ?_;refine (Qfb (p:=⟨w.heap.size,0,none⟩) (e:=cm.1) hec hO4 hf4 hds.gl).mono ?_;rintro e u' w5 ⟨rfl,rfl,w6,hb6,rfl⟩;have hc6:w6.cell? ⟨w.heap.size,0,none⟩=some (.string ⟨#[]⟩):=(hb6.cell (p:=⟨w.heap.size,0,none⟩) q3).trans hO4;have hc7:=World.cell?_setCell_same w6 ⟨w.heap.size,0,none⟩ (.string ⟨(X4 cm.1).toArray⟩) hc6;refine⟨.string ⟨(X4 cm.1).toArray⟩,by simp[results,results20,go_sem,hc7],?_,?_⟩
   ·rw[HW.o];unfold YF;rw[if_neg HE.o];rfl
   ·rw[HW.o];exact DkS.finish (X1:=fun j=>X j∨j=w.heap.size) (Qa (Qa HB1.o.1 HB2.o.1) HB3.o) hds hb6 (fun _ e=>.inl e) (.inr rfl)
theorem Qvl (h:DkI X w D r R n)(hs:s.length≤50000):Calls prog 20 #[.pointer (some ⟨D,0,none⟩),.string ⟨s.toArray⟩] w (Qdy X D r (QT R s) w):=by
 cases hf:QY s with
 | nil=>exact Qvi h hs hf
 | cons t l=>exact Qvk h hs hf
end
end
section
open Go.RowKit Go.Sort
theorem Qii {n:Nat}{R:RM}(h:RMs n R)(hn:n≤1000000){s:Bs}(hs:s.length≤50000):(QT R s).1.length≤11000∧RMs (n+1) (QT R s).2:=by
 have hf:=Qjk s;unfold QT
 cases hw:QY s with
 | nil=>exact⟨by show ([111,107]:Bs).length≤_;decide,h.same⟩
 | cons t l =>
  rw[hw] at hf;have hc:=Qmg h hn (l:=l) (fun x hx=>by have:=(hf.1 x (List.mem_cons_of_mem _ hx)).2;omega) t;refine⟨?_,hc.r⟩
  show (YF (Z4 R t l)).length≤_
  unfold YF;have h1:=hc.l;have h2:=Lib.itoa_length_le (Z4 R t l).1 (by have:=hc.e;omega) (by have:=hc.e;omega)
  split
  ·omega
  ·simp only[Wad,Wan,List.length_nil];omega
structure DkN (X:Nat→Prop)(w:World)(D:Nat):Prop where
 bx:Blk w D 51 #[.pointer none]
 gl:Glo w
 lo:∀ j,(j=D∨X j)→9≤j
 dx:¬ X D
 xlt:∀ j,X j→j<w.heap.size
section
variable {X:Nat→Prop}{w w' w1 w2:World}{D:Nat}{r r':RP}{R R':RM}{l:List Bs}{t:Bs}{v:Value}
theorem DkN.below (h:DkN X w D)(hb:Below w.heap.size w w'):DkN X w' D:=⟨h.bx.below hb h.bx.lt,h.gl.below hb,h.lo,h.dx,fun j hj=>Wal (h.xlt j hj) hb.size⟩
theorem DkN.fresh (h:DkN X w D)(hb:Below w.heap.size w w1)(hF:∀ j,r'.F j→w.heap.size≤j)(hr:RmR w1 (fun j=>r'.F j∨(X j∨j=D)) r' R')(hw:w2=w1.setCell ⟨D,0,none⟩ (.pointer (some ⟨r'.a,0,none⟩))):DkR X w2 D r' R'∧Only (fun j=>j=D) w w2:=by
 subst hw;have hD:=h.bx.lt;have ho:Only (fun j=>j=D) w1 (w1.setCell ⟨D,0,none⟩ (.pointer (some ⟨r'.a,0,none⟩))):=(Only.refl (fun j=>j=D) w1).setCell (p:=⟨D,0,none⟩) (.inl rfl) _;have hnD:¬ r'.F D:=fun e=>by have:=hF D e;omega
 refine⟨⟨?_,(h.bx.below hb hD).put1,hnD,(h.gl.below hb).only ho (fun j e=>h.lo j (.inl e)),fun j hj=>?_,h.dx,fun j hj hx=>by have:=h.xlt _ hx;have:=hF j hj;omega⟩,(Only.of_below hb).trans ho⟩
 ·exact hr.only ho (fun j e=>.inr (.inr e)) (fun j hj e=>hnD (e ▸ hj)) (fun j hj=>.inl (hj.elim .inl (fun e=>.inr (.inl e)))) (fun _ e=>.inl e) (fun j hj=>Wal (hj.elim (fun e=>hr.lt j e) (fun e=>Wal (h.xlt _ e) hb.size)) ho.size)
 ·rcases hj with e | e | e
  ·exact h.lo j (.inl e)
  ·exact Wbf h.gl.lo (hF j e)
  ·exact h.lo j (.inr e)
def Qij (X:Nat→Prop)(D:Nat)(R:RM)(w:World)(e:Ending)(w':World):Prop:=(∃ s,e=.returned s)∧∃ r',DkR X w' D r' R∧Only (fun j=>j=D) w w'∧∀ j,r'.F j→w.heap.size≤j
theorem Qs4 {us:List Int}(h:DkN X w D)(hv:WrdI w r v (t :: l))(hnw:QG l=some us)(hr:(spl (Qj t)).2=[])(hbl:bl (spl (Qj t)).1≤2000)(hul:us.length≤6)(hus:∀ u∈us,1≤u∧u≤3):Calls prog 16 #[.pointer (some ⟨D,0,none⟩),v] w (Qij X D (RM.new (spl (Qj t)).1 us) w):=by
 have H:=Hm h;have lt:=h.bx.lt;have zf:=h.bx.frozen 0;have HC:=Hm (Wao hr (Wao hbl (Wao hul hus)));have HNW:=Hm hnw;have HM0:=fun W=>Hm (Yc W)
 clear hr hbl hul hus hnw;have hst:=hv.sz t (by simp);obtain⟨b,o,c,rfl,blt,bc,-⟩:=hv.at_ (k:=0) (s:=t) rfl;rw[Nat.add_zero] at bc;have hln:=hv.ln;rw[Wan] at hln hv ⊢;have HR:=Hm hv.rest;have HSZ:=Hm (fun s (hs:s∈l)=>hv.sz s (List.mem_cons_of_mem _ hs));have HWD:=fun W=>Hm (Qcf (A:=some ⟨b,o,none⟩) (m:=l.length+1) (c:=c) (by omega) (by omega) W)
 obtain⟨A2,c2,hsv⟩:=hv.rest.form
 have hrun:∀ W,(Instr.sliceAt 22 (.slice (some ⟨b,o,none⟩) (l.length+1) c) (some (.int .i64 1)) none none).run prog W=.ok (.slice A2 l.length c2) W:=fun W=>by
  have:=Jo XY (A:=some ⟨b,o,none⟩) (n:=l.length+1) (c:=c) (k:=1) (w:=W) (by omega)
  rw[hsv] at this;exact this
 rw[hsv] at HR;obtain⟨m,hm⟩:∃ m,m=l.length:=⟨_,rfl⟩;have hml:m≤1000000:=by omega
 rw[← hm] at hrun HR HWD hv hln ⊢;have HML:=Hm hm;have HPL:=fun W=>Hm (Ji hst W)
 have HBC:=Hm (Wao blt bc);clear h hsv hm;go_enter func16,ntmps16
 go_wp2_with (go_at_call 45;refine (HWD _).out.mono ?_;rintro e w1 ⟨rfl,rfl⟩)
 go_loopw [5,7,15] (fun v _ i wr=>∃ (k:Nat) (ys:List Int),k≤m∧i=.int .i64 k∧Below w.heap.size w wr∧QG (l.take k)=some ys∧ys.length=k∧wr.ownsRow w.heap.size 3 1 v k (ys.map fun u=>.int .i64 u)) (fun _ _ i _=>m-(intOf i).toNat)
 case atStart=>exact⟨0,[],by omega,rfl,Wac _ _,rfl,rfl,World.ownsRow_nil _ _ _ _⟩
 case round =>
  obtain⟨k,ys,hk,rfl,hB,hN,hL,hO⟩:=hrel;have HB:=Hm hB;have HO:=Hm hO;have HN:=Hm (Wao hN hL);obtain⟨Av,cv,rfl⟩:=Qm hO;have hz:=hB.size
  by_cases hlt:k<m
  ·obtain⟨s,hs⟩:∃ s,l[k]?=some s:=⟨_,Waj (by rw[← HML.o];exact hlt)⟩;have HNM:=fun W (hg:Glo W)=>Hm (ZU (HSZ.o s (List.mem_of_getElem? hs)) hg)
   obtain⟨b2,o2,cc,hv2,hbb,c0,-⟩:=HR.o.at_ hs;rw[← HML.o] at hv2
   cases hv2
   have c0':=(hB.cell (p:=⟨b2,o2+k,none⟩) hbb).trans c0;have hbb':=Wal hbb hz;obtain⟨hkl,hse⟩:=Wai.1 hs;clear hB hO hN hL c0 hs
   cases hnm:Qx s with
   | none =>
    exfalso
    have e:l=l.take k++l[k] :: l.drop (k+1):=by rw[← Wbl hkl,Wbh]
    have:QG l=none:=by rw[e];exact Qig (by rw[hse];exact hnm)
    have h2:=HNW.o;rw[this] at h2
    cases h2
   | some x =>
    have HE:=Hm hnm;have HX:Hd (l.take k++[s]=l.take (k+1)):=⟨by rw[Wag hkl,hse]⟩;clear hnm hse
    go_wp2_with (first
     | (go_at_call 46;refine (HNM _ (H.o.gl.below HB.o)).out.mono ?_;rintro e w2 ⟨hb2,h2,-⟩;obtain rfl:=h2 _ HE.o;have HB2:=Hm hb2;have ho2:=Q9 HO.o (Only.of_below (S:=fun _=>False) hb2) (fun _ _ e=>e);have HO2:=Hm ho2;clear hb2 h2 ho2)
     | (at_builtin;refine QE Qih #[.int .i64 x] HO2.o rfl rfl rfl rfl rfl rfl (YI rfl) (by unfold maxLen;omega) (by omega) (by have:=HB2.o.size;omega) ?_;intro v3 w3 hown3 hbel3 _ _;have HO3:=Hm hown3;have HB3:=Hm hbel3;obtain⟨A3,k3,rfl⟩:=Qm hown3;clear hown3 hbel3))
    go_roundw
    case rel =>
     refine⟨k+1,ys++[x],by omega,by go_num,(HB.o.trans (HB2.o.mono hz)).trans HB3.o,?_,by simp[HN.o.2],?_⟩
     ·rw[← HX.o];exact Qif HN.o.1 HE.o
     ·rw[Wbo];exact HO3.o
    case measure=>simp[intOf];omega
  ·obtain rfl:k=m:=by omega
   obtain rfl:ys=us:=by rw[HML.o,Wbe,HNW.o] at hN;exact (Wbg hN).symm
   have HUS:=Hm (Sl.of_own hO);have hul:=hL;have HNR:=fun W (hb:Below wr.heap.size wr W)=>Hm (Qgo (G:=fun j=>X j∨j=D) (w:=W) (fun j e=>e.elim (fun e=>Wal (H.o.xlt _ e) (Wbf hz hb.size)) (fun e=>by rw[e];exact Wal lt (Wbf hz hb.size))) (YD (Qj t)) (Qai hst) ⟨(H.o.gl.below (Qa HB.o hb)).hdl,fun e=>e.elim (fun e=>by have:=H.o.lo _ (.inr e);omega) (fun e=>by have:=H.o.lo D (.inl rfl);have e2:0=D:=e;omega)⟩ (HUS.o.below hb))
   have bc2:=(hB.cell (p:=⟨b,o,none⟩) HBC.o.1).trans HBC.o.2;have bl2:=Wal HBC.o.1 hz;clear hB hO hN
   go_wp2_with (first
    | (go_at_call 48;refine (HPL _).out.mono ?_;rintro e w2 ⟨rfl,hb2⟩;have HB2:=Hm hb2;clear hb2)
    | (go_at_call 47;refine (HNR _ HB2.o).out.mono ?_;rintro e w3 ⟨hb3,-,-,-,-,h3⟩;obtain⟨r',rfl,hF3,hR3⟩:=h3 HC.o.1 HC.o.2.1 HC.o.2.2.1 HC.o.2.2.2;have HB3:=Hm (Qa (Qa HB.o HB2.o) hb3);have HR3:=Hm (Wao hF3 hR3);have hk3:=(H.o.below HB3.o).bx;have y0:=hk3.cell 0;simp only[Wab,Waa] at y0;have yf:=hk3.frozen 0;have yl:=hk3.lt;clear hb3 h3 hF3 hR3 hk3)
    | (go_at_call 49;refine (HM0 _).out.mono ?_;rintro e w4 ⟨rfl,rfl⟩))
   go_ret;have hsz:=HB.o.size;have hsz2:=HB2.o.size;obtain⟨q1,q2⟩:=H.o.fresh HB3.o (fun j hj=>Wbf (Wbf hsz hsz2) (HR3.o.1 j hj)) HR3.o.2 rfl
   exact⟨⟨_,rfl⟩,r',q1,q2,fun j hj=>Wbf (Wbf hsz hsz2) (HR3.o.1 j hj)⟩
end
theorem Qdk:spl []=([],[]):=by
 have h:=(YD []).eq;have h1:=List.append_eq_nil_iff.1 h.symm;have h2:=(YD []).length;have h3:=U.len_le_off (spl []).1;have e1:(spl []).1=[]:=List.length_eq_zero_iff.1 (by rw[h1.2] at h2;simp at h2;omega);exact Prod.ext e1 h1.2
theorem Qs5:QG [[49],[50],[51]]=some [1,2,3]:=by kernel_rfl
theorem Qs6 {X:Nat→Prop}{w:World}{D:Nat}{r:RP}{v:Value}(h:DkN X w D)(hv:WrdI w r v [[45],[49],[50],[51]]):Calls prog 16 #[.pointer (some ⟨D,0,none⟩),v] w (Qij X D Xt w):=by
 have e:Qj [45]=[]:=rfl;have h2:=Qs4 h hv Qs5 (by rw[e,Qdk]) (by rw[e,Qdk];decide) (by decide) (by decide);rw[e,Qdk] at h2;exact h2
theorem Qs7:RMs 0 Xt:=RMs.new (by intro x hx;cases hx) (by decide) (by decide) (by decide)
end
section
open Go.RowKit Go.Shelf Go.Sort
theorem Qpb (s:Bs):Lib.trimSuffix s [10]=QA s:=by
 unfold Lib.trimSuffix Lib.hasSuffix QA;rcases List.eq_nil_or_concat s with rfl | ⟨t,x,rfl⟩
 ·rfl
 ·by_cases hx:x=10
  ·subst hx;have h1:([10]:Bs).isSuffixOf (t++[10])=true:=List.isSuffixOf_iff_suffix.2 ⟨t,rfl⟩;rw[List.concat_eq_append,if_pos h1,if_pos (by simp)];simp
  ·have h1:¬ (([10]:Bs).isSuffixOf (t++[x])=true):=fun e=>by
    obtain⟨y,hy⟩:=List.isSuffixOf_iff_suffix.1 e
    have:=(List.append_inj' hy rfl).2
    exact hx (by simpa using this.symm)
   rw[List.concat_eq_append,if_neg h1,if_neg (by simpa using hx)]
theorem Qpc {s:Bs}(hs:s.length≤1000000)(w:World):Calls prog 18 #[.string ⟨s.toArray⟩,.string ⟨#[10]⟩] w fun e w'=>e=.returned (.string ⟨(QA s).toArray⟩)∧w'=w :=
 (Qnr ⟨s.toArray⟩ ⟨#[10]⟩ w (by simp[ByteArray.size];omega)).mono fun _ _ ⟨h1,h2⟩=>⟨by rw[h1];exact congrArg (fun x:Bs=>Ending.returned (.string ⟨x.toArray⟩)) (Qpb s),h2⟩
theorem Qpd (s:Bs):(QA s).length≤s.length:=by
 unfold QA
 split
 ·simp
 ·omega
def Qgl (s:Bs)(w:World)(e:Ending)(w':World):Prop :=
 Below w.heap.size w w'∧∃ p q v,w.heap.size≤p∧w.heap.size≤q∧w.heap.size≤v∧e=.returned (.func (.func 89) #[] #[.pointer (some ⟨q,0,none⟩),.pointer (some ⟨p,0,none⟩),.pointer (some ⟨v,0,none⟩)])∧CutI w' p q v s
theorem Qpe (s:Bs)(w:World):Calls prog 50 #[.string ⟨s.toArray⟩,.string ⟨#[10]⟩,.int .i64 0] w (Qgl s w):=by
 have hmf:∀ (fn:Fn) (first cap:Array Value) (w:World),(Instr.makeFunc fn first cap).run prog w=.ok (.func fn first cap) w:=fun _ _ _ _=>rfl
 go_enter func50,ntmps50
 go_wp2_with fail;go_ret;have h1:=Blk.new w 9 #[.string ⟨s.toArray⟩];have h2:=Blk.new (w.alloc (.cells #[.string ⟨s.toArray⟩] 9)) 9 #[.string ⟨#[10]⟩];have h3:=Blk.new ((w.alloc (.cells #[.string ⟨s.toArray⟩] 9)).alloc (.cells #[.string ⟨#[10]⟩] 9)) 3 #[.int .i64 0];simp only[Waq] at h2 h3
 exact⟨Qb (Qb (Qb (Wac _ _) _) _) _,w.heap.size,w.heap.size+1,w.heap.size+1+1,by omega,by omega,by omega,rfl,⟨(h1.alloc _).alloc _,h2.alloc _,h3,by omega,by omega⟩⟩
theorem Qpf (s:Bs)(w:World):Calls prog 17 #[.string ⟨s.toArray⟩,.string ⟨#[10]⟩] w (Qgl s w):=by
 go_enter func17,ntmps17
 go_wp2_with fail;refine (Qpe s w).mono ?_;rintro e w' ⟨hb,p,q,v,h1,h2,h3,rfl,h4⟩;go_wp2
 go_ret
 exact⟨hb,p,q,v,h1,h2,h3,rfl,h4⟩
section
variable {X X':Nat→Prop}{w w':World}{D:Nat}{r:RP}{R:RM}
theorem DkR.both (h:DkR X w D r R){S:Nat→Prop}(ho:Only S w w')(hS:∀ j,S j→j<w.heap.size→X j)(h1:∀ j,X' j→X j∨(w.heap.size≤j∧j<w'.heap.size)):DkR X' w' D r R:=by
 have hlt:=h.rm.lt;have ho2:Only (fun j=>S j∧j<w.heap.size) w w':=⟨ho.os,ho.tape,ho.output,ho.size,fun k hk hn=>ho.block k hk (fun e=>hn ⟨e,hk⟩)⟩;have hS2:∀ j,(S j∧j<w.heap.size)→X j:=fun j e=>hS j e.1 e.2
 refine⟨h.rm.only ho2 (fun j e=>.inr (hS2 j e)) (fun j hj e=>h.fx j hj (hS2 j e)) (fun j hj=>hj.elim (fun e=>.inl (.inl e)) (fun e=>(h1 j e).elim (fun e=>.inl (.inr e)) (fun e=>.inr e.1))) (fun _ e=>.inl e) (fun j hj=>hj.elim (fun e=>Wal (hlt j e) ho.size) (fun e=>(h1 j e).elim (fun e=>Wal (h.xlt e) ho.size) (fun e=>e.2))),h.bx.only ho2 (fun e=>h.dx (hS2 _ e)),h.ap,h.gl.only ho2 (fun j e=>h.lo j (.inr (.inr (hS2 j e)))),fun j hj=>?_,fun e=>(h1 _ e).elim h.dx (fun e=>by have:=h.bx.lt;omega),fun j hj e=>(h1 _ e).elim (h.fx j hj) (fun e=>by have:=hlt j hj;omega)⟩;rcases hj with e | e | e
 ·exact h.lo j (.inl e)
 ·exact h.lo j (.inr (.inl e))
 ·exact (h1 j e).elim (fun e=>h.lo j (.inr (.inr e))) (fun e=>Wbf h.gl.lo e.1)
end
theorem Qpg (R:RM)(a b:List Bs):(QR R (a++b)).2=(QR (QR R a).2 b).2:=by
 induction a generalizing R with
 | nil=>simp[QR]
 | cons s l ih=>simp[QR,ih]
noncomputable def ZI (l:List Bs)(k:Nat):Bs:=(QR Xt (l.take k)).1
noncomputable def Y9 (l:List Bs)(k:Nat):RM:=(QR Xt (l.take k)).2
theorem Qgm {l:List Bs}{k:Nat}{s:Bs}(h:l[k]?=some s):ZI l (k+1)=ZI l k++((QT (Y9 l k) s).1++[10])∧Y9 l (k+1)=(QT (Y9 l k) s).2:=by
 obtain⟨hk,rfl⟩:=Wai.1 h;unfold ZI Y9;rw[Wag hk,Qhe,Qpg];simp[QR]
theorem Qgn {l:List Bs}(hl:∀ s∈l,s.length≤50000)(hn:l.length≤100000):∀ k,k≤l.length→RMs k (Y9 l k)∧(ZI l k).length≤k*11001
 | 0,_=>⟨Qs7,by simp[ZI,QR]⟩
 | k+1,hk=>by
  obtain⟨h1,h2⟩:=Qgn hl hn k (by omega);obtain⟨e1,e2⟩:=Qgm (l:=l) (k:=k) (s:=l[k]) (Waj (by omega));obtain⟨h3,h4⟩:=Qii h1 (by omega) (s:=l[k]) (hl _ (Wau _));refine⟨by rw[e2];exact h4,?_⟩;rw[e1,Wad,Wad];simp only[Wan,List.length_nil];omega
structure SsB where
 D:Nat
 x:Nat
 b:Nat
 p:Nat
 q:Nat
 v:Nat
 L:Nat
def SsB.S (z:SsB)(j:Nat):Prop:=j=z.x∨j=z.b∨j=z.p∨j=z.q∨j=z.v∨j=z.L∨j=z.L+1
structure SsI (w0:World)(z:SsB)(l:List Bs)(k:Nat)(W:World):Prop where
 ex:∃ X r vb,DkR X W z.D r (Y9 l k)∧BuV W z.b z.b (Lib.byteCells (ZI l k)) vb∧(∀ j,z.S j→j<W.heap.size→X j)∧(∀ j,vb.ownBlock=some j→X j∧¬ z.S j)∧∀ j,r.F j→w0.heap.size≤j
 bx:Blk W z.x 48 #[.pointer (some ⟨z.D,0,none⟩)]
 lo:Below w0.heap.size w0 W
 sz:z.L≤W.heap.size
structure SsZ (w0:World)(z:SsB):Prop where
 hp:z.p<z.L
 hq:z.q<z.L
 hv:z.v<z.L
 hb:z.b<z.p∧z.b<z.q∧z.b<z.v
 hx:z.x<z.b
 hD:z.D<z.x
 h0:w0.heap.size≤z.D
theorem SsI.keep {w0:World}{z:SsB}{l:List Bs}{k:Nat}{W W':World}(hz:SsZ w0 z)(h:SsI w0 z l k W)(ho:Only (fun j=>j=z.p∨j=z.L∨j=z.L+1) W W'):SsI w0 z l k W':=by
 obtain⟨X,r,vb,h1,h2,h3,h4,h9⟩:=h.ex;have hl:=h.sz;have hs:=ho.size
 have:=hz.hp
 have:=hz.hb
 have:=hz.hx
 have:=hz.hD
 have:=hz.h0
 have h5:∀ j,(j=z.p∨j=z.L∨j=z.L+1)→z.S j:=fun j e=>by
  unfold SsB.S;rcases e with e | e | e<;>simp[e]
 refine⟨⟨fun j=>X j∨(z.S j∧W.heap.size≤j∧j<W'.heap.size),r,vb,h1.both ho (fun j e hj=>h3 j (h5 j e) hj) (fun j e=>e.imp_right (fun e=>e.2)),h2.only ho (fun e=>by omega) (fun j e e2=>(h4 j e).2 (h5 j e2)),fun j e hj=>?_,fun j e=>⟨.inl (h4 j e).1,(h4 j e).2⟩,h9⟩,h.bx.only ho (fun e=>by omega),?_,by omega⟩
 ·rcases Nat.lt_or_ge j W.heap.size with h6 | h6
  ·exact .inl (h3 j e h6)
  ·exact .inr ⟨e,h6,hj⟩
 ·refine h.lo.trans ⟨ho.os,ho.tape,ho.output,ho.size,fun j hj=>ho.block j (Wal hj h.lo.size) (fun e=>by omega)⟩
theorem SsI.next {w0:World}{z:SsB}{l:List Bs}{k:Nat}{W w4 w5:World}{X:Nat→Prop}{r:RP}{vb v':Value}{t:Bs}(hz:SsZ w0 z)(h:SsI w0 z l k W)(hL:z.L+1<W.heap.size)
  (h2:BuV W z.b z.b (Lib.byteCells (ZI l k)) vb) (h3:∀ j,z.S j→j<W.heap.size→X j) (h4:∀ j,vb.ownBlock=some j→X j∧¬ z.S j) (h1:DkR X W z.D r (Y9 l k)) (h9:∀ j,r.F j→w0.heap.size≤j)
  (hd:DkS X z.D r (Y9 l (k+1)) W w4) (ht:ZI l (k+1)=ZI l k++t) (h5:BuV w5 z.b z.b (Lib.byteCells (ZI l k)++Lib.strCells ⟨t.toArray⟩) v') (h6:Only (fun j=>j=z.b∨vb.ownBlock=some j) w4 w5)
  (h7:∀ j,v'.ownBlock=some j→vb.ownBlock=some j∨w4.heap.size≤j):SsI w0 z l (k+1) w5∧W.heap.size≤w5.heap.size∧∀ j,z.S j→j≠z.b→w5.heap[j]?=W.heap[j]?:=by
 obtain⟨r',a1,a2,a3⟩:=hd;have q1:=hz.hp;have q2:=hz.hb;have q3:=hz.hx;have q4:=hz.hD;have q5:=hz.h0;have q6:=hz.hq;have q7:=hz.hv;have s4:=a2.size;have s5:=h6.size
 have hS:∀ j,z.S j→j<W.heap.size:=fun j e=>by
  rcases e with e | e | e | e | e | e | e<;>omega
 have hk:∀ j,z.S j→j≠z.b→w5.heap[j]?=W.heap[j]?:=fun j e hne=>by
  have hj:=hS j e;rw[h6.block j (by omega) (fun e2=>e2.elim hne (fun e2=>(h4 j e2).2 e))];exact a2.block j hj (fun e2=>e2.elim (fun e2=>h1.dx (e2 ▸ h3 j e hj)) (fun e2=>h1.fx j e2 (h3 j e hj)))
 have hsb:z.S z.b:=.inr (.inl rfl);refine⟨⟨⟨fun j=>X j∨(v'.ownBlock=some j∧w4.heap.size≤j∧j<w5.heap.size),r',v',a1.both h6 (fun j e _=>e.elim (fun e=>e ▸ h3 _ hsb (hS _ hsb)) (fun e=>(h4 j e).1)) (fun j e=>e.imp_right (fun e=>e.2)),?_,fun j e _=>.inl (h3 j e (hS j e)),fun j e=>⟨?_,?_⟩,fun j e=>(a3 j e).elim (h9 j) (fun e=>Wbf h.lo.size e)⟩,?_,?_,by omega⟩,by omega,hk⟩
 ·rw[ht];unfold Lib.byteCells at h5 ⊢;rw[Wbo];exact h5
 ·exact (h7 j e).elim (fun e2=>.inl (h4 j e2).1) (fun e2=>.inr ⟨e,e2,(h5.row j e).2⟩)
 ·exact (h7 j e).elim (fun e2=>(h4 j e2).2) (fun e2 e3=>by have:=hS j e3;omega)
 ·exact (hk z.x (.inl rfl) (by omega)).trans h.bx
 ·have hl:=h.lo.size;refine h.lo.trans ⟨h6.os.trans a2.os,h6.tape.trans a2.tape,h6.output.trans a2.output,by omega,fun j hj=>?_⟩;rw[h6.block j (by omega) (fun e2=>e2.elim (fun e2=>by omega) (fun e2=>by have:=(h2.row j e2).1;omega))];exact a2.block j (by omega) (fun e2=>e2.elim (fun e2=>by omega) (fun e2=>by have:=h9 j e2;omega))
theorem DkS.bu {X:Nat→Prop}{D:Nat}{r:RP}{R R':RM}{W w4:World}{B b:Nat}{bs:List Value}{v:Value}(hd:DkS X D r R' W w4)(h1:DkR X W D r R)(h:BuV W B b bs v)(hb:X b)(hv:∀ j,v.ownBlock=some j→X j):BuV w4 B b bs v∧W.heap.size≤w4.heap.size:=by
 obtain⟨r',a1,a2,a3⟩:=hd
 exact⟨h.only a2 (fun e=>e.elim (fun e=>h1.dx (e ▸ hb)) (fun e=>h1.fx _ e hb)) (fun k hk e=>e.elim (fun e=>h1.dx (e ▸ hv k hk)) (fun e=>h1.fx _ e (hv k hk))),a2.size⟩
end
section
open Go.RowKit Go.Shelf Go.Sort
attribute [local go_sem] Oper.semAt_some
def Qtc (s:Bs)(w:World)(e:Ending)(w':World):Prop:=e=.returned (.string ⟨(Yi s).toArray⟩)∧Below w.heap.size w w'
def rp0:RP:=⟨0,⟨0,0,.nil,.nilIface,0,0,[]⟩,.nilIface,[],.nilIface,[]⟩
theorem Qtd {j:Nat}(h:rp0.F j):j=0:=by
 rcases h with e | e | ⟨k,c,e,-⟩ | e
 ·exact e
 ·rcases e with e | e | e
  ·exact e
  ·cases e
  ·exact e
 ·cases e
 ·cases e
structure DnW (w W:World):Prop where
 dk:DkN (fun j=>j=w.heap.size+1) W w.heap.size
 bx:Blk W (w.heap.size+1) 48 #[.pointer (some ⟨w.heap.size,0,none⟩)]
 wd:WrdI W rp0 (.slice (some ⟨w.heap.size+1+1,0,none⟩) 4 4) [[45],[49],[50],[51]]
 lo:Below w.heap.size w W
 sz:W.heap.size=w.heap.size+3
theorem Qte {w:World}(hg:Glo w):∀ W,W=(((w.alloc (.cells #[.pointer none] 51)).alloc (.cells #[.pointer (some ⟨w.heap.size,0,none⟩)] 48)).alloc (.cells #[.string ⟨#[45]⟩,.string ⟨#[49]⟩,.string ⟨#[50]⟩,.string ⟨#[51]⟩] 9))→DnW w W:=by
 rintro W rfl;have h1:=Blk.new w 51 #[.pointer none];have h2:=Blk.new (w.alloc (.cells #[.pointer none] 51)) 48 #[.pointer (some ⟨w.heap.size,0,none⟩)];have h3:=Blk.new ((w.alloc (.cells #[.pointer none] 51)).alloc (.cells #[.pointer (some ⟨w.heap.size,0,none⟩)] 48)) 9 #[.string ⟨#[45]⟩,.string ⟨#[49]⟩,.string ⟨#[50]⟩,.string ⟨#[51]⟩];simp only[Waq] at h2 h3;have hb:Below w.heap.size w (((w.alloc (.cells #[.pointer none] 51)).alloc (.cells #[.pointer (some ⟨w.heap.size,0,none⟩)] 48)).alloc (.cells #[.string ⟨#[45]⟩,.string ⟨#[49]⟩,.string ⟨#[50]⟩,.string ⟨#[51]⟩] 9)):=Qb (Qb (Qb (Wac _ _) _) _) _;refine⟨⟨(h1.alloc _).alloc _,hg.below hb,fun j e=>?_,by omega,fun j e=>by simp[Waq];omega⟩,h2.alloc _,⟨Sl.of_blk h3 rfl (by unfold maxLen;omega),by decide,?_,fun ad n c e hF=>?_⟩,hb,by simp[Waq]⟩
 ·rcases e with e | e
  ·rw[e];exact hg.lo
  ·have:=hg.lo;omega
 ·intro s hs;simp only[Wbk,List.not_mem_nil,or_false] at hs;rcases hs with rfl | rfl | rfl | rfl<;>decide
 ·cases e
  have:=Qtd hF
  dsimp only at this;omega
theorem Qdl {s:Bs}(w:World)(hs:s.length≤3900)(hg:Glo w):Calls prog 9 #[.string ⟨s.toArray⟩] w (Qtc s w):=by
 have hns:¬ 20000<s.length:=by omega
 have HG:=Hm hg;have HTR:=fun W=>Hm (Qpc (s:=s) (by omega) W)
 have HSQ:=fun W=>Hm (Qpf (QA s) W)
 clear hg;refine (callsIn_wide (n:=6)).1 ?_;refine callsIn_of_wp_marks func9 rfl trivial ?_ rfl
 simp only[ntmps9,List.size_toArray,Wan,List.length_nil,Nat.reduceAdd,Nat.reduceSub,Array.replicate_succ,Array.replicate_zero,List.push_toArray,List.append_toArray,Wbn,Wap];refine wpIn_wide.2 (Code.wp_mono NoPanic.imp ?_);go_wp2_with fail;have hN:=Qte HG.o _ rfl;generalize (((w.alloc (.cells #[.pointer none] 51)).alloc (.cells #[.pointer (some ⟨w.heap.size,0,none⟩)] 48)).alloc (.cells #[.string ⟨#[45]⟩,.string ⟨#[49]⟩,.string ⟨#[50]⟩,.string ⟨#[51]⟩] 9))=W0 at hN ⊢;refine (Qs6 hN.dk hN.wd).mono ?_;rintro e w1 ⟨⟨sv,rfl⟩,r1,hd1,ho1,hl1⟩;have hsz:=hN.sz;have hos:=ho1.size;have hx1:=hN.bx.only ho1 (by omega);have hlo1:Below w.heap.size w w1:=hN.lo.trans ⟨ho1.os,ho1.tape,ho1.output,ho1.size,fun j hj=>ho1.block j (by omega) (fun e=>by omega)⟩;have H1:=Hm (Wao hd1 (Wao hx1 (Wao hlo1 hl1)));clear hd1 hx1 ho1 hN hl1 hlo1
 go_wp2_with (first
  | (go_at_call 18;refine (HTR _).out.mono ?_;rintro e w2 ⟨rfl,rfl⟩)
  | (go_at_call 17;refine (HSQ _).out.mono ?_;rintro e w3 ⟨hb3,p,q,v,hp,hq,hv,rfl,hcut⟩;have H3:=Hm (Wao hb3 hcut);clear hb3 hcut))
 have hlen:=Qpd s;have hcl:=Quy (QA s)
 have HSI0:Hd (SsZ w ⟨w.heap.size,w.heap.size+1,w1.heap.size,p,q,v,w3.heap.size⟩∧SsI w ⟨w.heap.size,w.heap.size+1,w1.heap.size,p,q,v,w3.heap.size⟩ (Ql (QA s)) 0 w3):=⟨by
  obtain⟨hb3,hcut⟩:=H3.o;obtain⟨hd1,hx1,hlo1,hl1⟩:=H1.o;have ha:=Waq w1 (.cells #[.pointer none,.slice none 0 0] 56);have hbA:=Qtp w1;have hb1:Below w1.heap.size w1 (w1.alloc (.cells #[.pointer none,.slice none 0 0] 56)):=Qb (Wac _ _) _;have hz3:=hb3.size;have hb13:Below w1.heap.size w1 w3:=Qa hb1 hb3;refine⟨⟨hcut.bs.lt,hcut.bq.lt,hcut.bv.lt,⟨by dsimp only;omega,by dsimp only;omega,by dsimp only;omega⟩,by dsimp only;omega,by dsimp only;omega,Wak _⟩,⟨⟨fun j=>w1.heap.size≤j∧j<w3.heap.size∨j=w.heap.size+1,r1,.slice none 0 0,?_,?_,?_,?_,?_⟩,?_,?_,?_⟩⟩
  ·exact hd1.wider hb13 (fun j e=>e.elim (fun e=>.inr e) .inl)
  ·exact hbA.only (Only.of_below hb3) (fun e=>e) (fun _ _ e=>e)
  ·intro j e hj;rcases e with e | e | e | e | e | e | e
   ·exact .inr e
   all_goals first
    | exact .inl ⟨by omega,hj⟩
    | (dsimp only at e;omega)
  ·intro j e
   cases e
  ·intro j e
   have:=hl1 j e
   omega
  ·exact hx1.below hb13 hx1.lt
  ·exact Qa hlo1 hb13
  ·exact Wak _⟩
 refine (wpIn_wide (n:=6)).1 ?_
 refine Qs9 (gf:=89) (lb:=#[.pointer (some ⟨q,0,none⟩),.pointer (some ⟨p,0,none⟩),.pointer (some ⟨v,0,none⟩)]) (xs:=lnV (QA s)) (N:=(Ql (QA s)).length) (sB:=p) (K:=fun j=>j=p∨j=q∨j=v) rfl (enters_of func89 (by kernel_rfl) rfl) H3.o.2.bs.lt
  (fun j e=>by rcases e with e | e | e<;>rw[e];exact H3.o.2.bs.lt;exact H3.o.2.bq.lt;exact H3.o.2.bv.lt)
  (Qo0 5 (by omega) w3 H3.o.2 (by omega)) (fun _ _=>rfl)
  (fun k W=>SsI w ⟨w.heap.size,w.heap.size+1,w1.heap.size,p,q,v,w3.heap.size⟩ (Ql (QA s)) k W) (fun k A B h ho=>h.keep HSI0.o.1 ho) HSI0.o.2 ?round ?done
 case done =>
  intro W hI hD;obtain⟨X,r,vb,h1,h2,h3,h4,h9⟩:=hI.ex;have HI:=Hm hI;have HB:=Hm h2;have HD:=Hm hD;have hbl:=h2.lt;clear hI h1 h2 h3 h4 h9 hD;go_wp2_with fail;refine (Qc4 w1.heap.size w1.heap.size (ZI (Ql (QA s)) (Ql (QA s)).length) W HB.o.is (by omega)).mono ?_;rintro e w6 ⟨rfl,-,hb6,hk6⟩;go_wp2_with fail;have hL:=HSI0.o.1;have z1:=hL.hp;have z2:=hL.hb;have z3:=hL.hx;have z4:=hL.hD;dsimp only at z1 z2 z3 z4;have hd6:w6.heap[w3.heap.size]?=some (.deferred (some [])):=hk6 _ _ HD.o (fun e=>by have:=Wbg e;omega) (fun c fz e=>by cases e);change bodyPostM Fence.wide 6 _ _ _ Exit.ret _ _
  show LeavesInM _ _ _ _ _ _ _ _ _
  have hans:ZI (Ql (QA s)) (Ql (QA s)).length=Yi s:=by
   unfold ZI Yi;rw[Wbe,if_neg (by omega)]
  refine⟨by simp,.inl ⟨_,_,rfl,run_takeDeferred hd6,?_⟩⟩;refine⟨.string ⟨(ZI (Ql (QA s)) (Ql (QA s)).length).toArray⟩,by simp[results,Tryz.f9,go_sem],by rw[hans],?_⟩;exact (HI.o.lo.trans (hb6.mono (by omega))).trans (Xc _ _ _ (by omega))
 case round =>
  intro lo k W hk hI hlt;obtain⟨t,ht⟩:∃ t,(Ql (QA s))[k]?=some t:=⟨_,Waj hk⟩;have hx:lnV (QA s) k=#[.string ⟨t.toArray⟩]:=by unfold lnV;rw[ht];rfl
  have htl:=Qi2 (List.mem_of_getElem? ht);have hcl2:∀ y∈Ql (QA s),y.length≤50000:=fun y hy=>by have:=Qi2 hy;omega
  obtain⟨hrm,han⟩:=Qgn hcl2 (by omega) k (by omega);obtain⟨hs1,hs2⟩:=Qgm ht;have htl2:=(Qii hrm (by omega) (s:=t) (by omega)).1;rw[hx]
  gi_wp2_with fail
  refine⟨Wac _ _,fun o=>?_⟩;have hI2:=hI.keep HSI0.o.1 (Only.of_put W o (.inr (.inr rfl)));have hsz2:(W.putObj (w3.heap.size+1) o).heap.size=W.heap.size:=by simp
  generalize W.putObj (w3.heap.size+1) o=wq at hI2 hsz2 ⊢;have hlt2:w3.heap.size+1<wq.heap.size:=by omega
  obtain⟨X,r,vb,h1,h2,h3,h4,h9⟩:=hI2.ex;have hxc:wq.cell? ⟨w.heap.size+1,0,none⟩=some (.pointer (some ⟨w.heap.size,0,none⟩)):=(hI2.bx.cell 0).trans rfl;have hxl:=hI2.bx.lt;have HLN:=Hm (Qvl (X:=X) (n:=k) (s:=t) ⟨h1,hrm,by omega⟩ (by omega));have HI2:=Hm hI2;have HX:=Hm (Wao h1 (Wao h2 (Wao h3 (Wao h4 h9))));have HA:=Hm (Wao hs1 hs2);clear hI hI2 h1 h2 h3 h4 h9 hs1 hs2 hx W hsz2 hlt
  gi_wp2_with fail
  refine⟨trivial,CallsIn.inRound lo ((callsIn_wide.2 HLN.o).mono ?_)⟩;rintro e w4 ⟨rfl,hds⟩;have hb4:=hds.bu HX.o.1 HX.o.2.1 (HX.o.2.2.1 _ (.inr (.inl rfl)) HX.o.2.1.lt) (fun j e=>(HX.o.2.2.2.1 j e).1);have HB4:=Hm hb4.1;have HDS:=Hm hds;have hsz4:=hb4.2;clear hb4 hds
  gi_wp2_with fail
  have hap:(ByteArray.mk (QT (Y9 (Ql (QA s)) k) t).1.toArray)++(ByteArray.mk #[10])=⟨((QT (Y9 (Ql (QA s)) k) t).1++[10]).toArray⟩:=by
   apply ByteArray.ext
   simp[ByteArray.data_append]
  rw[hap];refine⟨trivial,CallsIn.inRound lo ((callsIn_wide.2 (Qts HB4.o (by simp[Lib.byteCells,ByteArray.size];omega) (by have:=HB4.o.lt;omega))).mono ?_)⟩;rintro e w5 ⟨rfl,v',g1,g2,g3⟩;obtain⟨n1,n2,n3⟩:=HI2.o.next HSI0.o.1 hlt2 HX.o.2.1 HX.o.2.2.1 HX.o.2.2.2.1 HX.o.1 HX.o.2.2.2.2 (by rw[HA.o.2];exact HDS.o) HA.o.1 g1 g2 g3
  gi_wp2_with fail
  refine⟨rfl,n1,n2,fun j e=>n3 j ?_ ?_⟩
  ·rcases e with (e | e | e) | e | e
   ·exact .inr (.inr (.inl e))
   ·exact .inr (.inr (.inr (.inl e)))
   ·exact .inr (.inr (.inr (.inr (.inl e))))
   ·exact .inr (.inr (.inr (.inr (.inr (.inl e)))))
   ·exact .inr (.inr (.inr (.inr (.inr (.inr e)))))
  ·have hz:=HSI0.o.1;have z1:=hz.hb;have z2:=hz.hp;dsimp only at z1 z2 ⊢;omega
end
section
open Go.RowKit Go.Sort
def exA:Bs:=[99,111,117,110,116,32,97,98,47]
def exT:Bs:=exA++[10,120,10]
def exR:Bs:=[51,32,51,32,51,32,49,10,101,114,114,111,114,32,51,10]
theorem Qqd:spl [97,98,10]=([97,98,10],[]):=by
 have h:U.Sp [97,98,10] [97,98,10] []:=by
  have:=U.sp_encs (rs:=[97,98,10]) (by intro x hx;simp at hx;rcases hx with rfl | rfl | rfl<;>decide)
  exact this
 obtain⟨h1,h2⟩:=(YD [97,98,10]).unique h;exact Prod.ext h1 h2
theorem Qqe:QY exA=[Xq,[97,98,47]]:=by kernel_rfl
theorem Qqf:QY [120]=[[120]]:=by kernel_rfl
theorem Qqg (R:RM):QT R exA=([51,32,51,32,51,32,49],R):=by
 unfold QT;rw[Qqe];have h1:Z4 R Xq [[97,98,47]]=ZV R [97,98,47]:=rfl;have h2:Qj [97,98,47]=[97,98,10]:=by decide
 have h3:ZV R [97,98,47]=(0,[51,32,51,32,51,32,49],R):=by
  unfold ZV;rw[h2,Qqd];have h4:Zy [(cnt [97,98,10]).b,(cnt [97,98,10]).h,(cnt [97,98,10]).r,(cnt [97,98,10]).l]=[51,32,51,32,51,32,49]:=by kernel_rfl
  rw[if_neg (by simp),h4]
 show (YF (Z4 R Xq [[97,98,47]]),(Z4 R Xq [[97,98,47]]).2.2)=_
 rw[h1,h3]
 rfl
theorem Qqh (R:RM):QT R [120]=([101,114,114,111,114,32,51],R):=by
 unfold QT;rw[Qqf]
 show (YF (Z4 R [120] []),(Z4 R [120] []).2.2)=_
 have h1:Z4 R [120] []=no 3 R:=rfl;rw[h1];have h2:YF (no 3 R)=[101,114,114,111,114,32,51]:=by kernel_rfl
 rw[h2]
 rfl
theorem Qqi:Yi exT=exR:=by
 have h1:Ql (QA exT)=[exA,[120]]:=by decide
 unfold Yi;rw[if_neg (by decide),h1];unfold QR;rw[Qqg];unfold QR;rw[Qqh]
 rfl
theorem deskPieces_walk {a b:Bs}{w:World}(hg:Glo w)(ha:a.length≤4611686018427387903)(hb:b.length≤4611686018427387903):Calls prog 5 #[.string ⟨a.toArray⟩,.string ⟨b.toArray⟩] w fun e w'=>e=.returned (.bool true)∧Below w.heap.size w w':=by
 have HG:=Hm hg;clear hg
 by_cases hl:2000<a.length+b.length
 ·go_enter func5,ntmps5
  go_wp2_with fail;go_ret
  exact⟨rfl,Wac _ _⟩
 ·have HX:=fun W (h:Glo W)=>Hm (Qdl (s:=exT) W (by decide) h)
  have HA:=fun W (h:Glo W)=>Hm (Qdl (s:=a++[10]) W (by simp;omega) h)
  have HB:=fun W (h:Glo W)=>Hm (Qdl (s:=a++10 :: b) W (by simp;omega) h)
  have HP:=Hm (Qr2 (a:=a) (b:=b) (by omega));go_enter func5,ntmps5
  go_wp2_with fail;refine (HX w HG.o).out.mono ?_;rintro e w1 ⟨rfl,hb1⟩;rw[Qqi];have HB1:=Hm hb1;clear hb1;go_wp2_with fail;have e1:(ByteArray.mk a.toArray)++(ByteArray.mk #[10])=⟨(a++[10]).toArray⟩:=YY _ _;rw[e1];refine (HA w1 (HG.o.below HB1.o)).out.mono ?_;rintro e w2 ⟨rfl,hb2⟩;have HB2:=Hm (Qa HB1.o hb2);clear hb2;go_wp2_with fail;have e2:(ByteArray.mk (a++[10]).toArray)++(ByteArray.mk b.toArray)=⟨(a++10 :: b).toArray⟩:=by rw[YY,Wah];rfl
  rw[e2];refine (HB w2 (HG.o.below HB2.o)).out.mono ?_;rintro e w3 ⟨rfl,hb3⟩;have HB3:=Hm (Qa HB2.o hb3);obtain⟨t,ht⟩:=HP.o;rw[ht];generalize Yi (a++[10])=y at *;have e3:(ByteArray.mk (y++t).toArray).extract 0 y.length=⟨y.toArray⟩:=by rw[Qgg (by simp),List.take_left]
  clear hb3 ht HP HX HA HB e1 e2;go_wp2_with fail;go_ret
  exact⟨rfl,HB3.o⟩
end
end Go.Proofs.YtckkgdmkfbkaoaaGreatDoor
