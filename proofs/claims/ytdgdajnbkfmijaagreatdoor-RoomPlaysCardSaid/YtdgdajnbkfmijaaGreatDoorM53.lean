/- Texts of the proof. -/
import Derived.Test.YtdgdajnbkfmijaaGreatDoorM52
namespace Go.Proofs.YtdgdajnbkfmijaaGreatDoor
open Go.Proofs.Tryz
set_option maxRecDepth 100000
set_option maxHeartbeats 32000000
section
open Go.RowKit Go.Sort
def rgE (px py:Int)(m n:Nat):Int:=if (px<2∧(py<0∨(m:Int)≤py))∨(1<px∧px<5∧(py<0∨(n:Int)≤py)) then 2 else 0
theorem YD {px py:Int}{m n:Nat}(h:(px<2∧(py<0∨(m:Int)≤py))∨(1<px∧px<5∧(py<0∨(n:Int)≤py))):rgE px py m n=2:=if_pos h
theorem YE {px py:Int}{m n:Nat}(h:¬ ((px<2∧(py<0∨(m:Int)≤py))∨(1<px∧px<5∧(py<0∨(n:Int)≤py)))):rgE px py m n=0:=if_neg h
abbrev AT:TypeId:=82
structure AcR (w:World)(a0 a1 B:Nat)(bs:Array Value)(k nu:Nat)(R:RM)(wx:World):Prop where
 ok:RMb (k+1:Nat) ((k+1:Nat)*100000) R
 cl:R.cl.length=nu
 px:RmPx w wx a0 a1 B AT bs R R.z
theorem AcR.mk' {w wx:World}{a0 a1 B:Nat}{bs:Array Value}{k nu:Nat}{R R':RM}{q:Bool}(hp:PlayS R q R')(hb:RMb (k:Nat) ((k:Nat)*100000) R)(hc:R.cl.length=nu)(hn:nu≤100)(hx:RmPx w wx a0 a1 B AT bs R' R'.z):AcR w a0 a1 B bs k nu R' wx:=by
 obtain⟨h1,h2⟩:=hp.ok hb (by omega)
 exact⟨h1.mono (by omega) (by omega),h2.trans hc,hx⟩
theorem Xl {n:Nat}{args:Array Value}{ev:Value}{w:World}(h:∀ d os,Calls prog n args (grow (redrawn w d) os) fun e w'=>e=.returned ev∧w'=grow (redrawn w d) os) :
  ∀ d os,Calls prog n args (grow (redrawn w d) os) fun e w''=>e=.returned ev∧∃ p:Regrown,w''=grow (redrawn w p.d) p.os :=
 fun d os=>(h d os).mono (by rintro e w2 ⟨rfl,rfl⟩;exact⟨rfl,⟨d,os⟩,rfl⟩)
section
attribute [local go_sem] Qr
theorem Qo4 {Q:Exit→Act→World→Prop}{v0 v1 v2 v7 v11 v18:Value}{us:Nat→Value}{w6:World}{B a1:Nat}{px py:Int}{nu nw:Nat}{Ac:Option Addr}{ccl:Nat}
  (y0:w6.cell? ⟨B,0,none⟩=some (.int .i64 px)) (z1:w6.cell? ⟨a1,1,none⟩=some (.slice Ac nu ccl)) (_zl:a1<w6.heap.size) (_yl:B<w6.heap.size) (_hnu:nu≤6) (_hnw:nw≤400) :
  Qjt.wp prog (Exit.then (Met fun a' w'=>∃ us',a'=FR v0 v1 v2 v7 (.pointer (some ⟨a1,0,none⟩)) v11 (.pointer (some ⟨B,0,none⟩)) (.int .i64 py) (.int .i64 (nw:Int)) (.int .i64 (rgE px py nu nw)) v18 us'∧w'=w6) Q)
   (FR v0 v1 v2 v7 (.pointer (some ⟨a1,0,none⟩)) v11 (.pointer (some ⟨B,0,none⟩)) (.int .i64 py) (.int .i64 (nw:Int)) (.int .i64 0) v18 us) w6:=by
 refine Zz (fun J hJ=>?_);change Code.wp _ (Code.seq _ _) _ _ _;unfold FR
 by_cases a1':px<2
 ·have a2:¬ (1:Int)<px:=by omega
  by_cases b1:py<0
  ·have he:rgE px py nu nw=2:=YD (.inl ⟨a1',.inl b1⟩);go_wp2_with fail;exact Met.intro (hJ _ _ (QP rfl rfl rfl rfl rfl rfl rfl rfl rfl rfl rfl (by rw[he];rfl) rfl rfl))
  ·by_cases b2:(nu:Int)≤py
   ·have he:rgE px py nu nw=2:=YD (.inl ⟨a1',.inr b2⟩);go_wp2_with fail;exact Met.intro (hJ _ _ (QP rfl rfl rfl rfl rfl rfl rfl rfl rfl rfl rfl (by rw[he];rfl) rfl rfl))
   ·have he:rgE px py nu nw=0:=YE (by omega);go_wp2_with fail;exact Met.intro (hJ _ _ (QP rfl rfl rfl rfl rfl rfl rfl rfl rfl rfl rfl (by rw[he];rfl) rfl rfl))
 ·have a2:(1:Int)<px:=by omega
  by_cases a3:px<5
  ·by_cases b1:py<0
   ·have he:rgE px py nu nw=2:=YD (.inr ⟨a2,a3,.inl b1⟩);go_wp2_with fail;exact Met.intro (hJ _ _ (QP rfl rfl rfl rfl rfl rfl rfl rfl rfl rfl rfl (by rw[he];rfl) rfl rfl))
   ·by_cases b2:(nw:Int)≤py
    ·have he:rgE px py nu nw=2:=YD (.inr ⟨a2,a3,.inr b2⟩);go_wp2_with fail;exact Met.intro (hJ _ _ (QP rfl rfl rfl rfl rfl rfl rfl rfl rfl rfl rfl (by rw[he];rfl) rfl rfl))
    ·have he:rgE px py nu nw=0:=YE (by omega);go_wp2_with fail;exact Met.intro (hJ _ _ (QP rfl rfl rfl rfl rfl rfl rfl rfl rfl rfl rfl (by rw[he];rfl) rfl rfl))
  ·have he:rgE px py nu nw=0:=YE (by omega);go_wp2_with fail;exact Met.intro (hJ _ _ (QP rfl rfl rfl rfl rfl rfl rfl rfl rfl rfl rfl (by rw[he];rfl) rfl rfl))
end
end
section
open Go.RowKit Go.Sort
theorem Qn8 {P:Program}{y:Code}{Q:Exit→Act→World→Prop}{w:World}{a:Act}{v0 v1 v2 v7 v9 v11 v12 v13 v14 v15 v18:Value}(hd:a.defers=[])(hs:a.tmps.size=345)(h0:a.tmps.getD 0 undef=v0)(h1:a.tmps.getD 1 undef=v1)(h2:a.tmps.getD 2 undef=v2)(h7:a.tmps.getD 7 undef=v7)(h9:a.tmps.getD 9 undef=v9)(h11:a.tmps.getD 11 undef=v11)(h12:a.tmps.getD 12 undef=v12)(h13:a.tmps.getD 13 undef=v13)(h14:a.tmps.getD 14 undef=v14)(h15:a.tmps.getD 15 undef=v15)(h18:a.tmps.getD 18 undef=v18)
  (h:∀ us,y.wp P Q (FR v0 v1 v2 v7 v9 v11 v12 v13 v14 v15 v18 us) w):y.wp P Q a w:=by
 obtain⟨us,rfl⟩:=Qd5 hd hs h0 h1 h2 h7 h9 h11 h12 h13 h14 h15 h18;exact h us
section
attribute [local go_sem] Qr
theorem Qn9 {Q:Exit→Act→World→Prop}{y:Code}{v0 v1 v12 v13 v14 v15 v18:Value}{us:Nat→Value}{w wr:World}{r0a q0a:Nat}{A:Option Addr}{na cc k nu:Nat}{L:List (EN × Value)}{R:RM}{r:RP}{q:RRP}{F:Nat→Prop}
  (hsl:Sl w 3 (.slice A na cc) na (ens L)) (hln:L.length=na) (hok:∀ p∈L,ActOk w p) (hps:RmPs w wr r0a q0a R R.z r q F) (hrb:RMb (k:Nat) ((k:Nat)*100000) R) (hcl:R.cl.length=nu) (_hkb:k≤50) (_hnu6:nu≤6) (hkn:k<na)
  (hret:∀ a w',a.defers=[]→a.tmps.size=345→a.tmps.getD 6 undef=.bool true→Below w.heap.size w w'→Q .ret a w')
  (hy:∀ (us:Nat→Value) (w6:World) (B:Nat) (px py:Int) (Aq:Option Addr) (cq:Nat) (op:List PT),RmPx w w6 r0a q0a B AT #[.int .i64 px,.int .i64 py,.slice Aq op.length cq] R R.z→Sl w 3 (.slice Aq op.length cq) op.length (opv op)→op.length≤100 →
   y.wp prog Q (FR v0 v1 (.slice A na cc) (.pointer (some ⟨r0a,0,none⟩)) (.pointer (some ⟨q0a,0,none⟩)) (.int .i64 (k:Int)) (.pointer (some ⟨B,0,none⟩)) (.int .i64 py) (.int .i64 (R.way.length:Int)) (.int .i64 0) v18 us) w6) :
  (Code.seq Qjp (Code.seq Qjq (Code.seq Qjr (Code.seq Qjs y)))).wp prog Q
   (FR v0 v1 (.slice A na cc) (.pointer (some ⟨r0a,0,none⟩)) (.pointer (some ⟨q0a,0,none⟩)) (.int .i64 (k:Int)) v12 v13 v14 v15 v18 us) wr:=by
 change Code.wp _ (Code.seq (Code.region _ _ _) (Code.seq (Code.seq (Code.region _ _ _) (Code.cond _ _ _)) (Code.seq (Code.region _ _ _) (Code.seq (Code.region _ _ _) y)))) _ _ _;unfold FR;have HY:=Hm hy;have HRET:=Hm hret;have HPQ:=Hm hps;have HRB:=Hm hrb;have HCL:=Hm hcl;have HLN:=Hm hln;have hkl:k<L.length:=by rw[hln];exact hkn
 obtain⟨b',o',c',hv,hbw,c0,c1,c2⟩:=(hsl.below hps.bel).entry hkn hkl
 cases hv
 have hp:=hok _ (Wau hkl);clear hsl hok hy hret hrb hcl hln;generalize L[k]=p at *;obtain⟨⟨px,py,op⟩,pv⟩:=p;have hso:=hp.op;have HIN:=Hm hp.parts;dsimp only at hso HIN c0 c1 c2;have HSO:=Hm hso;obtain⟨Aq,cq,rfl,-⟩:=hso;have hbwr:b'<wr.heap.size:=hbw;clear hp hps hkl;have HXB:=Hm (Blk.new wr AT #[.int .i64 px,.int .i64 py,.slice Aq op.length cq]);have HSW:=Hm ((HSO.o.below HPQ.o.bel).below (Qa (Wac _ _) (.cells #[.int .i64 px,.int .i64 py,.slice Aq op.length cq] AT)))
 by_cases hbig:100<op.length
 ·go_wp2_with (go_at_call 10;refine (Qqo HSW.o hbig).mono ?_;rintro e w4 ⟨rfl,rfl⟩)
  exact HRET.o _ _ rfl rfl rfl (Qa HPQ.o.bel _)
 have HQ100:Hd (op.length≤100):=⟨by omega⟩;clear hbig;have HFW:=Hm (Qkv HSW.o HQ100.o (fun p hp=>(HIN.o p hp).s));have HXP:Hd (RmPx w (wr.alloc (.cells #[.int .i64 px,.int .i64 py,.slice Aq op.length cq] AT)) r0a q0a wr.heap.size AT #[.int .i64 px,.int .i64 py,.slice Aq op.length cq] R R.z):=⟨⟨⟨r,q,F,HPQ.o.below (Qa (Wac _ _) _),fun e=>absurd (HPQ.o.rm.flt _ e) (Nat.lt_irrefl _)⟩,HXB.o⟩⟩;obtain⟨B,hB⟩:∃ B,B=wr.heap.size:=⟨_,rfl⟩;go_wp2_with fail;refine HFW.o.mono ?_;rintro e w4 ⟨hfe,hb4⟩;have HX4:=Hm (HXP.o.below hb4);rw[← hB] at HX4 ⊢;clear HXP HFW HXB HSW c0 c1 c2 hB hbwr hbw HPQ;obtain⟨-,y1,y2⟩:=Qy HX4.o.box;have yl:=HX4.o.box.lt;rcases hfe with ⟨hfew,rfl⟩ | ⟨-,rfl⟩
 case inr =>
  go_wp2_with fail;exact HRET.o _ _ rfl rfl rfl HX4.o.bel
 clear hfew hb4
 by_cases h70:70<op.length
 ·have hi70:(70:Int)<(op.length:Int):=by omega
  go_wp2_with fail;exact HRET.o _ _ rfl rfl rfl HX4.o.bel
 have hi70:¬ (70:Int)<(op.length:Int):=by omega
 obtain⟨⟨r4,q4,F4,hps4,hn4⟩,hbx4⟩:=HX4.o;have HTX:=Hm (Qc1 hps4.rr.srv (by show R.srv.log.length≤1000;have:=HRB.o.ok.ln;omega));obtain⟨z0,-,-,-⟩:=Qk hps4.rr.blk;rw[hps4.hb] at z0;have zl:q0a<w4.heap.size:=by rw[← hps4.hb];exact hps4.rr.blk.lt
 clear hps4 hn4 hbx4;have hsrv:R.z.srv=R.srv:=rfl;rw[hsrv] at HTX
 by_cases h1000:1000<R.srv.doc.length
 ·have hi1000:(1000:Int)<(R.srv.doc.length:Int):=by omega
  go_wp2_with (go_at_call 17;refine HTX.o.mono ?_;rintro e w5 ⟨rfl,hb5⟩;have HX5:=Hm (HX4.o.below hb5);clear hb5)
  exact HRET.o _ _ rfl rfl rfl HX5.o.bel
 have hi1000:¬ (1000:Int)<(R.srv.doc.length:Int):=by omega
 go_wp2_with (go_at_call 17;refine HTX.o.mono ?_;rintro e w5 ⟨rfl,hb5⟩;have HX5:=Hm (HX4.o.below hb5);clear hb5)
 clear z0 zl y1 y2 yl hi1000 h1000 hi70 h70 HTX hsrv;obtain⟨⟨r5,q5,F5,hps5,hn5⟩,hbx5⟩:=HX5.o;obtain⟨z0,z1,z2,z3⟩:=Qk hps5.rr.blk;obtain⟨Aw,cw,hvw⟩:=Qg hps5.rr.own;have hwl:q5.L.length=R.way.length:=by rw[hps5.rr.wl];exact R.z_len
 rw[hvw,hwl] at z2;rw[hps5.hb] at z2;have zl:q0a<w5.heap.size:=by rw[← hps5.hb];exact hps5.rr.blk.lt
 obtain⟨y0,y1,y2⟩:=Qy hbx5;have yl:=hbx5.lt;clear z0 z1 z3 hps5 hn5 hbx5 hvw hwl;go_quiet (fail)
 go_wp2_with fail;exact Qn8 rfl rfl rfl rfl rfl rfl rfl rfl rfl rfl rfl rfl rfl (fun us'=>HY.o us' _ B px py Aq cq op (HX5.o.below (Qh nq (Wac _ _))) HSO.o HQ100.o)
end
end
section
open Go.RowKit Go.Sort
section
attribute [local go_sem] Qr
theorem Qvf {Q:Exit→Act→World→Prop}{v0 v1 v2 v11 v18:Value}{us:Nat→Value}{w w6:World}{r0a q0a B:Nat}{py:Int}{nu nw k:Nat}{Aq:Option Addr}{cq:Nat}{op:List PT}{R:RM}
  (hx6:RmPx w w6 r0a q0a B AT #[.int .i64 0,.int .i64 py,.slice Aq op.length cq] R R.z) (hrb:RMb (k:Nat) ((k:Nat)*100000) R) (hcl:R.cl.length=nu) (hnw:nw=R.way.length) (hkb:k≤50) (hnu6:nu≤6) (hso:Sl w 3 (.slice Aq op.length cq) op.length (opv op)) (hq:op.length≤100) :
  cSw.wp prog (Exit.then (Met fun a' w'=>∃ us',a'=FR v0 v1 v2 (.pointer (some ⟨r0a,0,none⟩)) (.pointer (some ⟨q0a,0,none⟩)) v11 (.pointer (some ⟨B,0,none⟩)) (.int .i64 py) (.int .i64 (nw:Int)) (.int .i64 (rgE 0 py nu nw)) v18 us'∧∃ R',AcR w r0a q0a B #[.int .i64 0,.int .i64 py,.slice Aq op.length cq] k nu R' w') Q)
   (FR v0 v1 v2 (.pointer (some ⟨r0a,0,none⟩)) (.pointer (some ⟨q0a,0,none⟩)) v11 (.pointer (some ⟨B,0,none⟩)) (.int .i64 py) (.int .i64 (nw:Int)) (.int .i64 (rgE 0 py nu nw)) v18 us) w6:=by
 refine Zz (fun J hJ=>?_);change Code.wp _ (Code.seq _ _) _ _ _;unfold FR;have HX6:=Hm hx6;have HRB:=Hm hrb;have HCL:=Hm hcl;have HSO:=Hm hso;have HNW:=Hm hnw;have HQ100:=Hm hq;have HLO:Hd (-1000000000≤R.lost∧R.lost≤1000000000):=⟨by have:=hrb.l0;have:=hrb.bd;omega⟩;have hclu:=hcl;have hnwl:=hnw;have hnw4:nw≤400:=by rw[hnw];exact hrb.ok.wl
 obtain⟨y0,-,-⟩:=Qy hx6.box;have yl:=hx6.box.lt;clear hx6 hrb hcl hnw hso hq
 by_cases hrg:0≤py∧py<(nu:Int)
 ·have he:rgE 0 py nu nw=0:=YE (by omega);rw[he];obtain⟨k0,rfl⟩:=Was (show 0≤py by omega);obtain⟨C,hC⟩:∃ C,R.cl[k0]?=some C:=⟨_,Waj (by omega)⟩;obtain⟨⟨r6,q6,F6,hps6,hn6⟩,hbx6⟩:=HX6.o;obtain⟨c6,d6,bv,ov,ccv,hc6,hd6,hkl6,hbv6,hks6⟩:=hps6.at_ hbx6 hC;have hcl6:=Qeg hps6.rm hc6;rw[hps6.ha] at hcl6;have HCC:=Hm hcl6;rw[hclu] at hks6;have HS6:=Hm (Wao hps6 (Wao hn6 (Wao hbx6 (Wao hbv6 hks6))));have HCD:=Hm (Wao hC (Wao hc6 hd6));have hkn0:k0<nu:=by omega
  clear hps6 hn6 hbx6 hbv6 hks6 hC hc6 hd6 hkl6 hcl6
  go_upto_region 24 with (first
   | (go_at_call 27;refine HCC.o.mono ?_;rintro e w7 ⟨rfl,rfl⟩)
   | (go_at_call 11;refine (Yd .nil HX6.o.hdl).mono ?_;rintro e w8 ⟨rfl,hb8⟩;have HB8:=Hm hb8;clear hb8))
  have HS8:Hd (RmPs w w8 r0a q0a R R.z r6 q6 F6∧¬ F6 B∧Blk w8 B AT #[.int .i64 0,.int .i64 (k0:Int),.slice Aq op.length cq]∧¬ F6 bv∧KS q0a B bv (ov+k0) d6.a (.slice (some ⟨bv,ov,none⟩) nu ccv) (.int .i64 0) (.int .i64 (k0:Int)) (.slice Aq op.length cq) w8) :=
   ⟨HS6.o.1.below HB8.o,HS6.o.2.1,HS6.o.2.2.1.below HB8.o HS6.o.2.2.1.lt,HS6.o.2.2.2.1,HS6.o.2.2.2.2.below HB8.o⟩
  clear HS6 HB8
  have HEP:Hd (∀ W,Below w8.heap.size w8 W→Calls prog 35 #[.pointer (some ⟨c6.a,0,none⟩),.slice Aq op.length cq] W fun e w'=>e=.returned (QC (C.edit op).1)∧KS q0a B bv (ov+k0) d6.a (.slice (some ⟨bv,ov,none⟩) nu ccv) (.int .i64 0) (.int .i64 (k0:Int)) (.slice Aq op.length cq) w'∧∃ r' F',RmPs w w' r0a q0a (R.edit k0 op) R.z r' q6 F'∧¬ F' B∧¬ F' bv∧Blk w' B AT #[.int .i64 0,.int .i64 (k0:Int),.slice Aq op.length cq]):=⟨fun W hb=>by
   obtain⟨h1,h2,h3,h4,h5⟩:=HS8.o;have h1':=h1.below hb;exact h1'.editP h2 (h3.below hb h3.lt) HRB.o (by omega) HCD.o.1 HCD.o.2.1 (OpO.argR HSO.o h1'.bel h1'.new) (by have:=HQ100.o;omega) h4 (h5.below hb)⟩
  have HER:Hd (∀ W r' F',RmPs w W r0a q0a (R.edit k0 op) R.z r' q6 F'→¬ F' B→¬ F' bv→Blk W B AT #[.int .i64 0,.int .i64 (k0:Int),.slice Aq op.length cq]→KS q0a B bv (ov+k0) d6.a (.slice (some ⟨bv,ov,none⟩) nu ccv) (.int .i64 0) (.int .i64 (k0:Int)) (.slice Aq op.length cq) W →
    Calls prog 36 #[.pointer (some ⟨d6.a,0,none⟩),.slice Aq op.length cq] W fun e w'=>e=.returned (.int .i64 (C.edit op).1)∧KS q0a B bv (ov+k0) d6.a (.slice (some ⟨bv,ov,none⟩) nu ccv) (.int .i64 0) (.int .i64 (k0:Int)) (.slice Aq op.length cq) w'∧RmPx w w' r0a q0a B AT #[.int .i64 0,.int .i64 (k0:Int),.slice Aq op.length cq] (R.edit k0 op) (R.edit k0 op).z):=⟨fun W r' F' h1 h2 h3 h4 h5 =>
   h1.editR h2 h3 h4 HRB.o (by omega) HCD.o.1 HCD.o.2.2 (OpO.argR HSO.o h1.bel h1.new) (by have:=HQ100.o;omega) h5⟩
  clear y0 yl HCC
  go_region_held3 (fun w'=>KS q0a B bv (ov+k0) d6.a (.slice (some ⟨bv,ov,none⟩) nu ccv) (.int .i64 0) (.int .i64 (k0:Int)) (.slice Aq op.length cq) w')
   (first | exact HKB.o | exact HK2.o | exact HK1.o | exact HS8.o.2.2.2.2 | assumption)
   (first
    | (go_at_call 35;refine (HEP.o _ (Qe (Wac _ _))).mono ?_;rintro e wp ⟨rfl,hk1,r1,F1,g1,g2,g3,g4⟩;have HK1:=Hm hk1;have HE1:=Hm (Wao g1 (Wao g2 (Wao g3 g4)));clear hk1 g1 g2 g3 g4)
    | (go_at_call 36;refine (HER.o _ _ _ HE1.o.1 HE1.o.2.1 HE1.o.2.2.1 HE1.o.2.2.2 HK1.o).mono ?_;rintro e wq ⟨rfl,hk2,g2⟩;have HK2:=Hm hk2;have HE2:=Hm g2;clear hk2 g2)
    | (go_at_call 11;refine (Yd (Qds _ _) HE2.o.hdl).mono ?_;rintro e wb ⟨rfl,hbb⟩;have HKB:=Hm (HK2.o.below hbb);have HEB:=Hm (HE2.o.below hbb);clear hbb))
  all_goals
   go_wp2_with fail;exact Met.intro (hJ _ _ (QP rfl rfl rfl rfl rfl rfl rfl rfl rfl rfl (by first | rfl | (rw[HNW.o];rfl)) (by first | rfl | (rw[he];rfl)) rfl ⟨_,AcR.mk' (.edit k0 op false) HRB.o HCL.o (by omega) HEB.o⟩))
 ·have he:rgE 0 py nu nw=2:=YD (by omega);rw[he];have hoff:¬ (0≤py∧py<(R.cl.length:Int)):=by omega
  have HC:=Hm (HX6.o.clientF hoff);clear hoff
  go_upto_region 24 with (first
   | (go_at_call 27;refine HC.o.mono ?_;rintro e w7 ⟨rfl,h7⟩;unfold errno;have H7:=Hm h7;clear h7)
   | (go_at_call 11;refine (Yd (.no 2) H7.o.hdl).mono ?_;rintro e w8 ⟨rfl,hb8⟩;have H8:=Hm (H7.o.below hb8);clear hb8))
  go_region
  all_goals
   go_wp2_with fail;exact Met.intro (hJ _ _ (QP rfl rfl rfl rfl rfl rfl rfl rfl rfl rfl (by first | rfl | (rw[HNW.o];rfl)) (by first | rfl | (rw[he];rfl)) rfl ⟨R,AcR.mk' (.same false) HRB.o HCL.o (by omega) (H8.o.below (by first | exact Wac _ _ | exact Qe (Wac _ _)))⟩))
end
end
section
open Go.RowKit Go.Sort
section
attribute [local go_sem] Qr
theorem Qra {Q:Exit→Act→World→Prop}{v0 v1 v2 v11 v18:Value}{us:Nat→Value}{w w6:World}{r0a q0a B:Nat}{py:Int}{nu nw k:Nat}{Aq:Option Addr}{cq:Nat}{op:List PT}{R:RM}
  (hx6:RmPx w w6 r0a q0a B AT #[.int .i64 1,.int .i64 py,.slice Aq op.length cq] R R.z) (hrb:RMb (k:Nat) ((k:Nat)*100000) R) (hcl:R.cl.length=nu) (hnw:nw=R.way.length) (hkb:k≤50) (hnu6:nu≤6) (hso:Sl w 3 (.slice Aq op.length cq) op.length (opv op)) (hq:op.length≤100) :
  cSw.wp prog (Exit.then (Met fun a' w'=>∃ us',a'=FR v0 v1 v2 (.pointer (some ⟨r0a,0,none⟩)) (.pointer (some ⟨q0a,0,none⟩)) v11 (.pointer (some ⟨B,0,none⟩)) (.int .i64 py) (.int .i64 (nw:Int)) (.int .i64 (rgE 1 py nu nw)) v18 us'∧∃ R',AcR w r0a q0a B #[.int .i64 1,.int .i64 py,.slice Aq op.length cq] k nu R' w') Q)
   (FR v0 v1 v2 (.pointer (some ⟨r0a,0,none⟩)) (.pointer (some ⟨q0a,0,none⟩)) v11 (.pointer (some ⟨B,0,none⟩)) (.int .i64 py) (.int .i64 (nw:Int)) (.int .i64 (rgE 1 py nu nw)) v18 us) w6:=by
 refine Zz (fun J hJ=>?_);change Code.wp _ (Code.seq _ _) _ _ _;unfold FR;have HX6:=Hm hx6;have HRB:=Hm hrb;have HCL:=Hm hcl;have HSO:=Hm hso;have HNW:=Hm hnw;have HQ100:=Hm hq;have HLO:Hd (-1000000000≤R.lost∧R.lost≤1000000000):=⟨by have:=hrb.l0;have:=hrb.bd;omega⟩;have hclu:=hcl;have hnwl:=hnw;have hnw4:nw≤400:=by rw[hnw];exact hrb.ok.wl
 obtain⟨y0,-,-⟩:=Qy hx6.box;have yl:=hx6.box.lt;clear hx6 hrb hcl hnw hso hq
 by_cases hrg:0≤py∧py<(nu:Int)
 ·have he:rgE 1 py nu nw=0:=YE (by omega);rw[he];obtain⟨k0,rfl⟩:=Was (show 0≤py by omega);obtain⟨C,hC⟩:∃ C,R.cl[k0]?=some C:=⟨_,Waj (by omega)⟩;have HSR:=Hm (HX6.o.sendR HLO.o (k:=k0) (C:=C) hC);have HSP:Hd (∀ W,RmPx w W r0a q0a B AT #[.int .i64 1,.int .i64 (k0:Int),.slice Aq op.length cq] R (R.z.asks k0)→Calls prog 38 #[.pointer (some ⟨r0a,0,none⟩),.int .i64 (k0:Int)] W fun e w'=>e=.returned .nilIface∧RmPx w w' r0a q0a B AT #[.int .i64 1,.int .i64 (k0:Int),.slice Aq op.length cq] (R.asks k0) (R.z.asks k0)):=⟨fun W h=>h.sendP HRB.o (by omega) (by omega) hC⟩;clear hC
  go_wp2_with (first
   | (go_at_call 37;refine HSR.o.mono ?_;rintro e w7 ⟨rfl,h7⟩;have H7:=Hm h7;clear h7)
   | (go_at_call 38;refine (HSP.o _ H7.o).mono ?_;rintro e w8 ⟨rfl,h8⟩;have H8:=Hm h8;clear h8)
   | (go_at_call 11;refine (Yd .nil H8.o.hdl).mono ?_;rintro e w9 ⟨rfl,hb9⟩;have H9:=Hm (H8.o.below hb9);clear hb9))
  exact Met.intro (hJ _ _ (QP rfl rfl rfl rfl rfl rfl rfl rfl rfl rfl (by first | rfl | (rw[HNW.o];rfl)) (by first | rfl | (rw[he];rfl)) rfl ⟨_,AcR.mk' (.asks k0 false) HRB.o HCL.o (by omega) (by rw[RM.z_asks];exact H9.o)⟩))
 ·have he:rgE 1 py nu nw=2:=YD (by omega);rw[he];have hoff:¬ (0≤py∧py<(R.cl.length:Int)):=by omega
  have HC:=Hm (HX6.o.sendF hoff);clear hoff
  go_wp2_with (first
   | (go_at_call 38;refine HC.o.mono ?_;rintro e w7 ⟨rfl,h7⟩;unfold errno;have H7:=Hm h7;clear h7)
   | (go_at_call 11;refine (Yd (.no 2) H7.o.hdl).mono ?_;rintro e w8 ⟨rfl,hb8⟩;have H8:=Hm (H7.o.below hb8);clear hb8))
  exact Met.intro (hJ _ _ (QP rfl rfl rfl rfl rfl rfl rfl rfl rfl rfl (by first | rfl | (rw[HNW.o];rfl)) (by first | rfl | (rw[he];rfl)) rfl ⟨R,AcR.mk' (.same false) HRB.o HCL.o (by omega) H8.o⟩))
end
end
section
open Go.RowKit Go.Sort
section
attribute [local go_sem] Qr
theorem Qrb {Q:Exit→Act→World→Prop}{v0 v1 v2 v11 v18:Value}{us:Nat→Value}{w w6:World}{r0a q0a B:Nat}{py:Int}{nu nw k:Nat}{Aq:Option Addr}{cq:Nat}{op:List PT}{R:RM}
  (hx6:RmPx w w6 r0a q0a B AT #[.int .i64 2,.int .i64 py,.slice Aq op.length cq] R R.z) (hrb:RMb (k:Nat) ((k:Nat)*100000) R) (hcl:R.cl.length=nu) (hnw:nw=R.way.length) (hkb:k≤50) (hnu6:nu≤6) (hso:Sl w 3 (.slice Aq op.length cq) op.length (opv op)) (hq:op.length≤100) :
  cSw.wp prog (Exit.then (Met fun a' w'=>∃ us',a'=FR v0 v1 v2 (.pointer (some ⟨r0a,0,none⟩)) (.pointer (some ⟨q0a,0,none⟩)) v11 (.pointer (some ⟨B,0,none⟩)) (.int .i64 py) (.int .i64 (nw:Int)) (.int .i64 (rgE 2 py nu nw)) v18 us'∧∃ R',AcR w r0a q0a B #[.int .i64 2,.int .i64 py,.slice Aq op.length cq] k nu R' w') Q)
   (FR v0 v1 v2 (.pointer (some ⟨r0a,0,none⟩)) (.pointer (some ⟨q0a,0,none⟩)) v11 (.pointer (some ⟨B,0,none⟩)) (.int .i64 py) (.int .i64 (nw:Int)) (.int .i64 (rgE 2 py nu nw)) v18 us) w6:=by
 refine Zz (fun J hJ=>?_);change Code.wp _ (Code.seq _ _) _ _ _;unfold FR;have HX6:=Hm hx6;have HRB:=Hm hrb;have HCL:=Hm hcl;have HSO:=Hm hso;have HNW:=Hm hnw;have HQ100:=Hm hq;have HLO:Hd (-1000000000≤R.lost∧R.lost≤1000000000):=⟨by have:=hrb.l0;have:=hrb.bd;omega⟩;have hclu:=hcl;have hnwl:=hnw;have hnw4:nw≤400:=by rw[hnw];exact hrb.ok.wl
 obtain⟨y0,-,-⟩:=Qy hx6.box;have yl:=hx6.box.lt;clear hx6 hrb hcl hnw hso hq
 by_cases hrg:0≤py∧py<(nw:Int)
 ·have he:rgE 2 py nu nw=0:=YE (by omega);rw[he];obtain⟨k0,rfl⟩:=Was (show 0≤py by omega);obtain⟨p,hp⟩:∃ p,R.way[k0]?=some p:=⟨_,Waj (by omega)⟩;have HPK:=Hm hp;clear hp;have HDR:=Hm (HX6.o.del HRB.o (by omega) (by omega) HPK.o (by omega));have HDP:Hd (∀ W,RmPx w W r0a q0a B AT #[.int .i64 2,.int .i64 (k0:Int),.slice Aq op.length cq] R (R.deliver k0).z→Calls prog 41 #[.pointer (some ⟨r0a,0,none⟩),.int .i64 (k0:Int)] W fun e w'=>e=.returned .nilIface∧RmPx w w' r0a q0a B AT #[.int .i64 2,.int .i64 (k0:Int),.slice Aq op.length cq] (R.deliver k0) (R.deliver k0).z):=⟨fun W h=>h.delP HRB.o (by omega) (by omega) (by omega) (by omega)⟩
  go_wp2_with (first
   | (go_at_call 40;refine HDR.o.mono ?_;rintro e wo ⟨vo,rfl,ho⟩;have HOO:=Hm ho;clear ho)
   | (go_at_call 39;refine HOO.o.mono ?_;rintro e w7 ⟨rfl,h7⟩;have H7:=Hm h7;clear h7)
   | (go_at_call 41;refine (HDP.o _ H7.o).mono ?_;rintro e w8 ⟨rfl,h8⟩;have H8:=Hm h8;clear h8)
   | (go_at_call 11;refine (Yd .nil H8.o.hdl).mono ?_;rintro e w9 ⟨rfl,hb9⟩;have H9:=Hm (H8.o.below hb9);clear hb9))
  exact Met.intro (hJ _ _ (QP rfl rfl rfl rfl rfl rfl rfl rfl rfl rfl (by first | rfl | (rw[HNW.o];rfl)) (by first | rfl | (rw[he];rfl)) rfl ⟨_,AcR.mk' (.deliver k0 false) HRB.o HCL.o (by omega) H9.o⟩))
 ·have he:rgE 2 py nu nw=2:=YD (by omega);rw[he];have hoff:¬ (0≤py∧py<(R.way.length:Int)):=by omega
  have HC:=Hm (HX6.o.delF hoff);clear hoff
  go_wp2_with (first
   | (go_at_call 41;refine HC.o.mono ?_;rintro e w7 ⟨rfl,h7⟩;unfold errno;have H7:=Hm h7;clear h7)
   | (go_at_call 11;refine (Yd (.no 2) H7.o.hdl).mono ?_;rintro e w8 ⟨rfl,hb8⟩;have H8:=Hm (H7.o.below hb8);clear hb8))
  exact Met.intro (hJ _ _ (QP rfl rfl rfl rfl rfl rfl rfl rfl rfl rfl (by first | rfl | (rw[HNW.o];rfl)) (by first | rfl | (rw[he];rfl)) rfl ⟨R,AcR.mk' (.same false) HRB.o HCL.o (by omega) H8.o⟩))
end
end
section
open Go.RowKit Go.Sort
section
attribute [local go_sem] Qr
theorem Qlo {Q:Exit→Act→World→Prop}{v0 v1 v2 v11 v18:Value}{us:Nat→Value}{w w6:World}{r0a q0a B:Nat}{py:Int}{nu nw k:Nat}{Aq:Option Addr}{cq:Nat}{op:List PT}{R:RM}
  (hx6:RmPx w w6 r0a q0a B AT #[.int .i64 3,.int .i64 py,.slice Aq op.length cq] R R.z) (hrb:RMb (k:Nat) ((k:Nat)*100000) R) (hcl:R.cl.length=nu) (hnw:nw=R.way.length) (hkb:k≤50) (hnu6:nu≤6) (hso:Sl w 3 (.slice Aq op.length cq) op.length (opv op)) (hq:op.length≤100) :
  cSw.wp prog (Exit.then (Met fun a' w'=>∃ us',a'=FR v0 v1 v2 (.pointer (some ⟨r0a,0,none⟩)) (.pointer (some ⟨q0a,0,none⟩)) v11 (.pointer (some ⟨B,0,none⟩)) (.int .i64 py) (.int .i64 (nw:Int)) (.int .i64 (rgE 3 py nu nw)) v18 us'∧∃ R',AcR w r0a q0a B #[.int .i64 3,.int .i64 py,.slice Aq op.length cq] k nu R' w') Q)
   (FR v0 v1 v2 (.pointer (some ⟨r0a,0,none⟩)) (.pointer (some ⟨q0a,0,none⟩)) v11 (.pointer (some ⟨B,0,none⟩)) (.int .i64 py) (.int .i64 (nw:Int)) (.int .i64 (rgE 3 py nu nw)) v18 us) w6:=by
 refine Zz (fun J hJ=>?_);change Code.wp _ (Code.seq _ _) _ _ _;unfold FR;have HX6:=Hm hx6;have HRB:=Hm hrb;have HCL:=Hm hcl;have HSO:=Hm hso;have HNW:=Hm hnw;have HQ100:=Hm hq;have HLO:Hd (-1000000000≤R.lost∧R.lost≤1000000000):=⟨by have:=hrb.l0;have:=hrb.bd;omega⟩;have hclu:=hcl;have hnwl:=hnw;have hnw4:nw≤400:=by rw[hnw];exact hrb.ok.wl
 obtain⟨y0,-,-⟩:=Qy hx6.box;have yl:=hx6.box.lt;clear hx6 hrb hcl hnw hso hq
 by_cases hrg:0≤py∧py<(nw:Int)
 ·have he:rgE 3 py nu nw=0:=YE (by omega);rw[he];obtain⟨k0,rfl⟩:=Was (show 0≤py by omega);obtain⟨p,hp⟩:∃ p,R.way[k0]?=some p:=⟨_,Waj (by omega)⟩;have HPK:=Hm hp;clear hp;have HDR:=Hm (HX6.o.outR (RM.z_at HPK.o) (by rw[RM.z_len];omega));have HDP:Hd (∀ W,RmPx w W r0a q0a B AT #[.int .i64 3,.int .i64 (k0:Int),.slice Aq op.length cq] R (R.z.out k0)→Calls prog 42 #[.pointer (some ⟨r0a,0,none⟩),.int .i64 (k0:Int)] W fun e w'=>e=.returned .nilIface∧RmPx w w' r0a q0a B AT #[.int .i64 3,.int .i64 (k0:Int),.slice Aq op.length cq] (R.out k0) (R.z.out k0)):=⟨fun W h=>h.loseP (by omega) (by omega)⟩
  go_wp2_with (first
   | (go_at_call 40;refine HDR.o.mono ?_;rintro e w7 ⟨vo,rfl,h7⟩;have H7:=Hm h7;clear h7)
   | (go_at_call 42;refine (HDP.o _ H7.o).mono ?_;rintro e w8 ⟨rfl,h8⟩;have H8:=Hm h8;clear h8)
   | (go_at_call 11;refine (Yd .nil H8.o.hdl).mono ?_;rintro e w9 ⟨rfl,hb9⟩;have H9:=Hm (H8.o.below hb9);clear hb9))
  exact Met.intro (hJ _ _ (QP rfl rfl rfl rfl rfl rfl rfl rfl rfl rfl (by first | rfl | (rw[HNW.o];rfl)) (by first | rfl | (rw[he];rfl)) rfl ⟨_,AcR.mk' (.out k0 false) HRB.o HCL.o (by omega) (by rw[RM.z_out];exact H9.o)⟩))
 ·have he:rgE 3 py nu nw=2:=YD (by omega);rw[he];have hoff:¬ (0≤py∧py<(R.way.length:Int)):=by omega
  have HC:=Hm (HX6.o.loseF hoff);clear hoff
  go_wp2_with (first
   | (go_at_call 42;refine HC.o.mono ?_;rintro e w7 ⟨rfl,h7⟩;unfold errno;have H7:=Hm h7;clear h7)
   | (go_at_call 11;refine (Yd (.no 2) H7.o.hdl).mono ?_;rintro e w8 ⟨rfl,hb8⟩;have H8:=Hm (H7.o.below hb8);clear hb8))
  exact Met.intro (hJ _ _ (QP rfl rfl rfl rfl rfl rfl rfl rfl rfl rfl (by first | rfl | (rw[HNW.o];rfl)) (by first | rfl | (rw[he];rfl)) rfl ⟨R,AcR.mk' (.same false) HRB.o HCL.o (by omega) H8.o⟩))
end
end
section
open Go.RowKit Go.Sort
section
attribute [local go_sem] Qr
theorem Qmd {Q:Exit→Act→World→Prop}{v0 v1 v2 v11 v18:Value}{us:Nat→Value}{w w6:World}{r0a q0a B:Nat}{py:Int}{nu nw k:Nat}{Aq:Option Addr}{cq:Nat}{op:List PT}{R:RM}
  (hx6:RmPx w w6 r0a q0a B AT #[.int .i64 4,.int .i64 py,.slice Aq op.length cq] R R.z) (hrb:RMb (k:Nat) ((k:Nat)*100000) R) (hcl:R.cl.length=nu) (hnw:nw=R.way.length) (hkb:k≤50) (hnu6:nu≤6) (hso:Sl w 3 (.slice Aq op.length cq) op.length (opv op)) (hq:op.length≤100) :
  cSw.wp prog (Exit.then (Met fun a' w'=>∃ us',a'=FR v0 v1 v2 (.pointer (some ⟨r0a,0,none⟩)) (.pointer (some ⟨q0a,0,none⟩)) v11 (.pointer (some ⟨B,0,none⟩)) (.int .i64 py) (.int .i64 (nw:Int)) (.int .i64 (rgE 4 py nu nw)) v18 us'∧∃ R',AcR w r0a q0a B #[.int .i64 4,.int .i64 py,.slice Aq op.length cq] k nu R' w') Q)
   (FR v0 v1 v2 (.pointer (some ⟨r0a,0,none⟩)) (.pointer (some ⟨q0a,0,none⟩)) v11 (.pointer (some ⟨B,0,none⟩)) (.int .i64 py) (.int .i64 (nw:Int)) (.int .i64 (rgE 4 py nu nw)) v18 us) w6:=by
 refine Zz (fun J hJ=>?_);change Code.wp _ (Code.seq _ _) _ _ _;unfold FR;have HX6:=Hm hx6;have HRB:=Hm hrb;have HCL:=Hm hcl;have HSO:=Hm hso;have HNW:=Hm hnw;have HQ100:=Hm hq;have HLO:Hd (-1000000000≤R.lost∧R.lost≤1000000000):=⟨by have:=hrb.l0;have:=hrb.bd;omega⟩;have hclu:=hcl;have hnwl:=hnw;have hnw4:nw≤400:=by rw[hnw];exact hrb.ok.wl
 obtain⟨y0,-,-⟩:=Qy hx6.box;have yl:=hx6.box.lt;clear hx6 hrb hcl hnw hso hq
 by_cases hrg:0≤py∧py<(nw:Int)
 ·have he:rgE 4 py nu nw=0:=YE (by omega);rw[he];obtain⟨k0,rfl⟩:=Was (show 0≤py by omega);obtain⟨p,hp⟩:∃ p,R.way[k0]?=some p:=⟨_,Waj (by omega)⟩;have HPK:=Hm hp;clear hp;have HDR:=Hm (HX6.o.againR (RM.z_at HPK.o) (by rw[RM.z_len];omega) HLO.o);have HDP:Hd (∀ W,RmPx w W r0a q0a B AT #[.int .i64 4,.int .i64 (k0:Int),.slice Aq op.length cq] R (R.z.again k0)→Calls prog 44 #[.pointer (some ⟨r0a,0,none⟩),.int .i64 (k0:Int)] W fun e w'=>e=.returned .nilIface∧RmPx w w' r0a q0a B AT #[.int .i64 4,.int .i64 (k0:Int),.slice Aq op.length cq] (R.again k0) (R.z.again k0)):=⟨fun W h=>h.twiceP HPK.o (by omega) HLO.o⟩
  go_wp2_with (first
   | (go_at_call 43;refine HDR.o.mono ?_;rintro e w7 ⟨rfl,h7⟩;have H7:=Hm h7;clear h7)
   | (go_at_call 44;refine (HDP.o _ H7.o).mono ?_;rintro e w8 ⟨rfl,h8⟩;have H8:=Hm h8;clear h8)
   | (go_at_call 11;refine (Yd .nil H8.o.hdl).mono ?_;rintro e w9 ⟨rfl,hb9⟩;have H9:=Hm (H8.o.below hb9);clear hb9))
  exact Met.intro (hJ _ _ (QP rfl rfl rfl rfl rfl rfl rfl rfl rfl rfl (by first | rfl | (rw[HNW.o];rfl)) (by first | rfl | (rw[he];rfl)) rfl ⟨_,AcR.mk' (.again k0 false) HRB.o HCL.o (by omega) (by rw[RM.z_again HPK.o];exact H9.o)⟩))
 ·have he:rgE 4 py nu nw=2:=YD (by omega);rw[he];have hoff:¬ (0≤py∧py<(R.way.length:Int)):=by omega
  have HC:=Hm (HX6.o.twiceF hoff);clear hoff
  go_wp2_with (first
   | (go_at_call 44;refine HC.o.mono ?_;rintro e w7 ⟨rfl,h7⟩;unfold errno;have H7:=Hm h7;clear h7)
   | (go_at_call 11;refine (Yd (.no 2) H7.o.hdl).mono ?_;rintro e w8 ⟨rfl,hb8⟩;have H8:=Hm (H7.o.below hb8);clear hb8))
  exact Met.intro (hJ _ _ (QP rfl rfl rfl rfl rfl rfl rfl rfl rfl rfl (by first | rfl | (rw[HNW.o];rfl)) (by first | rfl | (rw[he];rfl)) rfl ⟨R,AcR.mk' (.same false) HRB.o HCL.o (by omega) H8.o⟩))
end
end
section
open Go.RowKit Go.Sort
section
attribute [local go_sem] Qr
theorem Qlp {Q:Exit→Act→World→Prop}{v0 v1 v2 v11 v18:Value}{us:Nat→Value}{w w6:World}{r0a q0a B:Nat}{py:Int}{nu nw k:Nat}{Aq:Option Addr}{cq:Nat}{op:List PT}{R:RM}
  (hx6:RmPx w w6 r0a q0a B AT #[.int .i64 5,.int .i64 py,.slice Aq op.length cq] R R.z) (hrb:RMb (k:Nat) ((k:Nat)*100000) R) (hcl:R.cl.length=nu) (hnw:nw=R.way.length) (hkb:k≤50) (hnu6:nu≤6) (hso:Sl w 3 (.slice Aq op.length cq) op.length (opv op)) (hq:op.length≤100) :
  cSw.wp prog (Exit.then (Met fun a' w'=>∃ us',a'=FR v0 v1 v2 (.pointer (some ⟨r0a,0,none⟩)) (.pointer (some ⟨q0a,0,none⟩)) v11 (.pointer (some ⟨B,0,none⟩)) (.int .i64 py) (.int .i64 (nw:Int)) (.int .i64 (rgE 5 py nu nw)) v18 us'∧∃ R',AcR w r0a q0a B #[.int .i64 5,.int .i64 py,.slice Aq op.length cq] k nu R' w') Q)
   (FR v0 v1 v2 (.pointer (some ⟨r0a,0,none⟩)) (.pointer (some ⟨q0a,0,none⟩)) v11 (.pointer (some ⟨B,0,none⟩)) (.int .i64 py) (.int .i64 (nw:Int)) (.int .i64 (rgE 5 py nu nw)) v18 us) w6:=by
 refine Zz (fun J hJ=>?_);change Code.wp _ (Code.seq _ _) _ _ _;unfold FR;have HX6:=Hm hx6;have HRB:=Hm hrb;have HCL:=Hm hcl;have HSO:=Hm hso;have HNW:=Hm hnw;have HQ100:=Hm hq;have HLO:Hd (-1000000000≤R.lost∧R.lost≤1000000000):=⟨by have:=hrb.l0;have:=hrb.bd;omega⟩;have hclu:=hcl;have hnwl:=hnw;have hnw4:nw≤400:=by rw[hnw];exact hrb.ok.wl
 obtain⟨y0,-,-⟩:=Qy hx6.box;have yl:=hx6.box.lt;clear hx6 hrb hcl hnw hso hq;have he:rgE 5 py nu nw=0:=YE (by omega);rw[he];have HQP:=Hm (HX6.o.quietP HRB.o (by omega) (by omega) (by omega));have HQR:Hd (∀ W,RmPx w W r0a q0a B AT #[.int .i64 5,.int .i64 py,.slice Aq op.length cq] R.quiet R.z→Calls prog 45 #[.pointer (some ⟨q0a,0,none⟩)] W fun e w'=>e=.returned (.tuple #[])∧RmPx w w' r0a q0a B AT #[.int .i64 5,.int .i64 py,.slice Aq op.length cq] R.quiet R.quiet.z):=⟨fun W h=>h.quietR HRB.o (by omega) (by omega) (by omega)⟩
 go_wp2_with (first
  | (go_at_call 32;refine HQP.o.mono ?_;rintro e w7 ⟨rfl,h7⟩;have H7:=Hm h7;clear h7)
  | (go_at_call 45;refine (HQR.o _ H7.o).mono ?_;rintro e w8 ⟨rfl,h8⟩;have H8:=Hm h8;clear h8))
 exact Met.intro (hJ _ _ (QP rfl rfl rfl rfl rfl rfl rfl rfl rfl rfl (by first | rfl | (rw[HNW.o];rfl)) (by first | rfl | (rw[he];rfl)) rfl ⟨_,AcR.mk' .quiet HRB.o HCL.o (by omega) H8.o⟩))
end
end
section
open Go.RowKit Go.Sort
section
attribute [local go_sem] Qr
theorem Qop {Q:Exit→Act→World→Prop}{v0 v1 v2 v11 v18:Value}{us:Nat→Value}{w w6:World}{r0a q0a B:Nat}{px py:Int}{nu nw k:Nat}{Aq:Option Addr}{cq:Nat}{op:List PT}{R:RM}
  (hx6:RmPx w w6 r0a q0a B AT #[.int .i64 px,.int .i64 py,.slice Aq op.length cq] R R.z) (hrb:RMb (k:Nat) ((k:Nat)*100000) R) (hcl:R.cl.length=nu) (hnw:nw=R.way.length) (hkb:k≤50) (hnu6:nu≤6) (hso:Sl w 3 (.slice Aq op.length cq) op.length (opv op)) (hq:op.length≤100) (pn:¬ (px=0∨px=1∨px=2∨px=3∨px=4∨px=5)) :
  cSw.wp prog (Exit.then (Met fun a' w'=>∃ us',a'=FR v0 v1 v2 (.pointer (some ⟨r0a,0,none⟩)) (.pointer (some ⟨q0a,0,none⟩)) v11 (.pointer (some ⟨B,0,none⟩)) (.int .i64 py) (.int .i64 (nw:Int)) (.int .i64 (rgE px py nu nw)) v18 us'∧∃ R',AcR w r0a q0a B #[.int .i64 px,.int .i64 py,.slice Aq op.length cq] k nu R' w') Q)
   (FR v0 v1 v2 (.pointer (some ⟨r0a,0,none⟩)) (.pointer (some ⟨q0a,0,none⟩)) v11 (.pointer (some ⟨B,0,none⟩)) (.int .i64 py) (.int .i64 (nw:Int)) (.int .i64 (rgE px py nu nw)) v18 us) w6:=by
 refine Zz (fun J hJ=>?_);change Code.wp _ (Code.seq _ _) _ _ _;unfold FR;have HX6:=Hm hx6;have HRB:=Hm hrb;have HCL:=Hm hcl;have HSO:=Hm hso;have HNW:=Hm hnw;have HQ100:=Hm hq;have HLO:Hd (-1000000000≤R.lost∧R.lost≤1000000000):=⟨by have:=hrb.l0;have:=hrb.bd;omega⟩;have hclu:=hcl;have hnwl:=hnw;have hnw4:nw≤400:=by rw[hnw];exact hrb.ok.wl
 obtain⟨y0,-,-⟩:=Qy hx6.box;have yl:=hx6.box.lt;clear hx6 hrb hcl hnw hso hq;have n0:(px == 0)=false:=Waf.2 (by omega);have n1:(px == 1)=false:=Waf.2 (by omega);have n2:(px == 2)=false:=Waf.2 (by omega);have n3:(px == 3)=false:=Waf.2 (by omega);have n4:(px == 4)=false:=Waf.2 (by omega);have n5:(px == 5)=false:=Waf.2 (by omega);clear pn;go_wp2_with fail;exact Met.intro (hJ _ _ (QP rfl rfl rfl rfl rfl rfl rfl rfl rfl rfl (by first | rfl | (rw[HNW.o];rfl)) (by first | rfl | (rw[HNW.o];rfl)) rfl ⟨R,AcR.mk' (.same false) HRB.o HCL.o (by omega) HX6.o⟩))
end
end
section
open Go.RowKit Go.Sort
section
attribute [local go_sem] Qr
theorem Qr6 {Q:Exit→Act→World→Prop}{v0 v1 v2 v11 v12 v13 v14 v15 v18:Value}{us:Nat→Value}{w w7:World}{r0a q0a B:Nat}{bs:Array Value}{nu k:Nat}{R':RM}(hA:AcR w r0a q0a B bs k nu R' w7) :
  Qju.wp prog (Exit.then (Met fun a' w'=>∃ us',a'=FR v0 v1 v2 (.pointer (some ⟨r0a,0,none⟩)) (.pointer (some ⟨q0a,0,none⟩)) v11 v12 v13 v14 v15 v18 us'∧Below w7.heap.size w7 w') Q)
   (FR v0 v1 v2 (.pointer (some ⟨r0a,0,none⟩)) (.pointer (some ⟨q0a,0,none⟩)) v11 v12 v13 v14 v15 v18 us) w7:=by
 refine Zz (fun J hJ=>?_);change Code.wp _ (Code.seq _ _) _ _ _;unfold FR;obtain⟨⟨r7,q7,F7,hps7,hn7⟩,hbx7⟩:=hA.px;have hMA:=Xl (fun d os=>by have:=Quj (hps7.rm.below (below_regrown w7 d os));rw[hps7.ha] at this;exact this);have hLO:=Xl (fun d os=>by have:=Qpy (hps7.rm.below (below_regrown w7 d os));rw[hps7.ha] at this;exact this);have hRV:=Xl (fun d os=>by have:=Quk (hps7.rm.below (below_regrown w7 d os));rw[hps7.ha] at this;exact this)
 have hTX:∀ d os,Calls prog 26 #[.pointer (some ⟨r0a,0,none⟩)] (grow (redrawn w7 d) os) fun e w''=>e=.returned (.string ⟨R'.srv.doc.toArray⟩)∧∃ p:Regrown,w''=grow (redrawn w7 p.d) p.os:=fun d os=>by
  have:=Qul (hps7.rm.below (below_regrown w7 d os))
  rw[hps7.ha] at this;exact Calls.regrown_of this
 have hRT:∀ d os,Calls prog 17 #[.pointer (some ⟨q7.s.a,0,none⟩)] (grow (redrawn w7 d) os) fun e w''=>e=.returned (.string ⟨R'.srv.doc.toArray⟩)∧∃ p:Regrown,w''=grow (redrawn w7 p.d) p.os:=fun d os =>
  Calls.regrown_of (Qc1 (hps7.rr.below (below_regrown w7 d os)).srv (by show R'.srv.log.length≤1000;have:=hA.ok.ok.ln;omega))
 obtain⟨z0,z1,z2,z3⟩:=Qk hps7.rr.blk;obtain⟨s0,s1,s2⟩:=Qy hps7.rr.srv.blk;obtain⟨Aw,cw,hvw⟩:=Qg hps7.rr.own;have hwl:q7.L.length=R'.way.length:=by rw[hps7.rr.wl];exact R'.z_len
 obtain⟨Ae,ce,hve⟩:=Qg hps7.rr.srv.own;have hsl:q7.s.L.length=R'.srv.log.length:=hps7.rr.srv.len;rw[hvw,hwl] at z2;rw[hve,hsl] at s1;rw[hps7.hb] at z0 z2 z3;have z3:w7.cell? ⟨q0a,3,none⟩=some (.int .i64 R'.lost):=z3;have kz0:=cell_regrown z0;have kz2:=cell_regrown z2;have kz3:=cell_regrown z3;have ks1:=cell_regrown s1;clear z0 z1 z2 z3 s0 s1 s2 hvw hwl hve hsl hps7 hn7 hbx7 hA;go_upto_region 49 with fail
 refine wp_region_quiet_below (by kernel_rfl) (by kernel_rfl) ?_
 repeat (quiet_step (first | (go_at_call 33;exact hMA _ _) | (go_at_call 46;exact hLO _ _) | (go_at_call 26;exact hTX _ _) | (go_at_call 17;exact hRT _ _) | (go_at_call 25;exact hRV _ _)))
 refine wpQuiet_nil ?_;rintro _ ⟨⟨dq,oq⟩,rfl⟩;have HB:=Hm (below_regrown w7 dq oq);generalize grow (redrawn w7 dq) oq=wz at HB ⊢;clear hMA hLO hRV hTX hRT kz0 kz2 kz3 ks1;go_wp2_with fail;exact Met.intro (hJ _ _ (QP rfl rfl rfl rfl rfl rfl rfl rfl rfl rfl rfl rfl rfl HB.o))
end
end
section
open Go.RowKit Go.Sort
section
attribute [local go_sem] Qr
theorem Qqr {Q:Exit→Act→World→Prop}{v0 v1 v2 v11 v12 v13 v14 v15 v18:Value}{us:Nat→Value}{w wz:World}{r0a q0a:Nat}{nu:Nat}{R':RM}{r7:RP}{q7:RRP}{F7:Nat→Prop}(hps:RmPs w wz r0a q0a R' R'.z r7 q7 F7)(hcl:R'.cl.length=nu)(hnu6:nu≤6) :
  (Code.seq Qjv cIn).wp prog (Exit.then (Met fun a' w'=>∃ v18' us',a'=FR v0 v1 v2 (.pointer (some ⟨r0a,0,none⟩)) (.pointer (some ⟨q0a,0,none⟩)) v11 v12 v13 v14 v15 v18' us'∧Below wz.heap.size wz w') Q)
   (FR v0 v1 v2 (.pointer (some ⟨r0a,0,none⟩)) (.pointer (some ⟨q0a,0,none⟩)) v11 v12 v13 v14 v15 v18 us) wz:=by
 refine Zz (fun J0 hJ0=>?_);refine Je (fun a' w'=>∃ us',a'=FR v0 v1 v2 (.pointer (some ⟨r0a,0,none⟩)) (.pointer (some ⟨q0a,0,none⟩)) v11 v12 v13 v14 v15 (.int .i64 0) us'∧wz=w') ?_ ?_
 ·refine Zz (fun J hJ=>?_);change Code.wp _ (Code.region _ _ _) _ _ _;unfold FR;go_wp2_with fail;exact Met.intro (hJ _ _ (QP rfl rfl rfl rfl rfl rfl rfl rfl rfl rfl rfl rfl rfl rfl))
 rintro a1 w1 ⟨us1,rfl,rfl⟩;change Code.wp _ (Code.block _ (Code.loop _)) _ _ _;refine wp_block (Qjw (fun a w'=>∃ (j:Nat) (us:Nat→Value),a=FR v0 v1 v2 (.pointer (some ⟨r0a,0,none⟩)) (.pointer (some ⟨q0a,0,none⟩)) v11 v12 v13 v14 v15 (.int .i64 (j:Int)) us∧(j≤nu∧Below wz.heap.size wz w')) (fun a _=>nu-(intOf (a.tmps.getD 18 undef)).toNat) ⟨0,us1,rfl,by omega,Wac _ _⟩ ?_);rintro a2 wv ⟨j,us2,rfl,hj,hbz⟩;refine Zz (fun J hJ=>?_);change Code.wp _ (Code.seq _ _) _ _ _;have HM:Hd (nu-(intOf (.int .i64 ((j:Int)+1))).toNat<nu-(intOf (.int .i64 (j:Int))).toNat∨¬ j<nu):=⟨by simp only[intOf];omega⟩;unfold FR;have HBZ:=Hm hbz;have HCL:=Hm hcl;have hps9:=hps.below hbz;obtain⟨z0,z1,z2,z3⟩:=Qk hps9.rr.blk;have hlc:q7.cs.length=nu:=by rw[hps9.rr.len];exact hcl
 obtain⟨Ac,ccl,hvc,-⟩:=id hps9.rr.vcs;rw[hvc,hlc] at z1;rw[hps9.hb] at z1;have zl:q0a<wv.heap.size:=by rw[← hps9.hb];exact hps9.rr.blk.lt
 clear z0 z2 z3 hbz hps hcl
 by_cases hjn:j<nu
 ·obtain⟨C,hC⟩:∃ C,R'.cl[j]?=some C:=⟨_,Waj (by rw[HCL.o];exact hjn)⟩;obtain⟨c9,hc9,hcr⟩:=hps9.rm.get hC;obtain⟨d9,hd9,hdr⟩:=hps9.rr.get (k:=j) (C:=C) hC;obtain⟨b9,o9,cc9,hv9,hb9,e9⟩:=hps9.rr.vcs.one_at (k:=j) (by rw[hlc];exact hjn) (u:=.pointer (some ⟨d9.a,0,none⟩)) (by unfold Zf;rw[Wav,hd9];rfl);rw[hvc] at hv9
  cases hv9
  have hcc:=Qeg hps9.rm hc9;rw[hps9.ha] at hcc;have HCC:=Hm hcc;have hcT:∀ d os,Calls prog 31 #[.pointer (some ⟨c9.a,0,none⟩)] (grow (redrawn wv d) os) fun e w''=>e=.returned (.string ⟨(U.encs C.doc).toArray⟩)∧∃ p:Regrown,w''=grow (redrawn wv p.d) p.os:=fun d os=>Calls.regrown_of (Qn4 (hcr.below (below_regrown wv d os)))
  have hcS:=Xl (fun d os=>Qn1 (hcr.below (below_regrown wv d os)));have hcR:=Xl (fun d os=>Qn0 (hcr.below (below_regrown wv d os)));have hcP:=Xl (fun d os=>Qn2 (hcr.below (below_regrown wv d os)));have hcD:=Xl (fun d os=>Qn3 (hcr.below (below_regrown wv d os)));obtain⟨-,-,y2,y3,y4,-,-,-,y8,-,y10⟩:=Zj hdr.blk;have ky2:=cell_regrown y2;have ky3:=cell_regrown y3;have ky4:=cell_regrown y4;have ky8:=cell_regrown y8;have ky10:=cell_regrown y10;clear hps9 hcr hdr hc9 hd9 hC hcc y2 y3 y4 y8 y10 hvc hlc;go_upto_region 56 with (go_at_call 27;refine HCC.o.mono ?_;rintro e wq ⟨rfl,eq⟩;have eq:=eq.symm;subst eq)
  refine wp_region_quiet_below (by kernel_rfl) (by kernel_rfl) ?_
  repeat (quiet_step (first | (go_at_call 31;exact hcT _ _) | (go_at_call 29;exact hcS _ _) | (go_at_call 28;exact hcR _ _) | (go_at_call 30;exact hcP _ _) | (go_at_call 47;exact hcD _ _)))
  refine wpQuiet_nil ?_;rintro _ ⟨⟨dq,oq⟩,rfl⟩;have HBY:=Hm (Qb HBZ.o (below_regrown wv dq oq));generalize grow (redrawn wv dq) oq=wy at HBY ⊢;clear hcT hcS hcR hcP hcD ky2 ky3 ky4 ky8 ky10 z1 zl e9;go_wp2_with fail;exact Met.intro (hJ _ _ ⟨⟨j+1,QP rfl rfl rfl rfl rfl rfl rfl rfl rfl rfl rfl rfl (by go_num) ⟨by omega,HBY.o⟩⟩,HM.o.resolve_right (fun h=>h hjn)⟩)
 ·obtain rfl:j=nu:=by omega
  clear hps9 hvc hlc;go_wp2_with fail;exact Met.intro (hJ0 _ _ ⟨_,QP rfl rfl rfl rfl rfl rfl rfl rfl rfl rfl rfl rfl rfl HBZ.o⟩)
end
end
section
open Go.RowKit Go.Sort
theorem Qt3 {Q:Exit→Act→World→Prop}{v0 v1 v2 v11 v18:Value}{us:Nat→Value}{w w6:World}{r0a q0a B:Nat}{px py:Int}{nu nw k:Nat}{Aq:Option Addr}{cq:Nat}{op:List PT}{R:RM}
  (hx6:RmPx w w6 r0a q0a B AT #[.int .i64 px,.int .i64 py,.slice Aq op.length cq] R R.z) (hrb:RMb (k:Nat) ((k:Nat)*100000) R) (hcl:R.cl.length=nu) (hnw:nw=R.way.length) (hkb:k≤50) (hnu6:nu≤6) (hso:Sl w 3 (.slice Aq op.length cq) op.length (opv op)) (hq:op.length≤100) :
  cSw.wp Tryz.prog (Exit.then (Met fun a' w'=>∃ us',a'=FR v0 v1 v2 (.pointer (some ⟨r0a,0,none⟩)) (.pointer (some ⟨q0a,0,none⟩)) v11 (.pointer (some ⟨B,0,none⟩)) (.int .i64 py) (.int .i64 (nw:Int)) (.int .i64 (rgE px py nu nw)) v18 us'∧∃ R',AcR w r0a q0a B #[.int .i64 px,.int .i64 py,.slice Aq op.length cq] k nu R' w') Q)
   (FR v0 v1 v2 (.pointer (some ⟨r0a,0,none⟩)) (.pointer (some ⟨q0a,0,none⟩)) v11 (.pointer (some ⟨B,0,none⟩)) (.int .i64 py) (.int .i64 (nw:Int)) (.int .i64 (rgE px py nu nw)) v18 us) w6:=by
 rcases (show px=0∨px=1∨px=2∨px=3∨px=4∨px=5∨¬ (px=0∨px=1∨px=2∨px=3∨px=4∨px=5) by omega) with p | p | p | p | p | p | p
 ·subst p;exact Qvf hx6 hrb hcl hnw hkb hnu6 hso hq
 ·subst p;exact Qra hx6 hrb hcl hnw hkb hnu6 hso hq
 ·subst p;exact Qrb hx6 hrb hcl hnw hkb hnu6 hso hq
 ·subst p;exact Qlo hx6 hrb hcl hnw hkb hnu6 hso hq
 ·subst p;exact Qmd hx6 hrb hcl hnw hkb hnu6 hso hq
 ·subst p;exact Qlp hx6 hrb hcl hnw hkb hnu6 hso hq
 ·exact Qop hx6 hrb hcl hnw hkb hnu6 hso hq p
theorem RmPx.vcs {w wr:World}{a0 a1 B nu:Nat}{T:TypeId}{bs:Array Value}{R Q:RM}(h:RmPx w wr a0 a1 B T bs R Q)(hc:Q.cl.length=nu):∃ Ac ccl,wr.cell? ⟨a1,1,none⟩=some (.slice Ac nu ccl)∧a1<wr.heap.size:=by
 obtain⟨⟨r,q,F,h1,h2⟩,h3⟩:=h;obtain⟨z0,z1,z2,z3⟩:=Qk h1.rr.blk;obtain⟨Ac,ccl,hvc,-⟩:=h1.rr.vcs;have hlc:q.cs.length=nu:=by rw[h1.rr.len];exact hc
 rw[hvc,hlc] at z1;rw[h1.hb] at z1
 exact⟨Ac,ccl,z1,by rw[← h1.hb];exact h1.rr.blk.lt⟩
def RqI (w:World)(v0 v1 v2:Value)(r0a q0a na nu:Nat)(a:Act)(wr:World):Prop :=
 ∃ (k:Nat) (v12 v13 v14 v15 v18:Value) (us:Nat→Value),a=FR v0 v1 v2 (.pointer (some ⟨r0a,0,none⟩)) (.pointer (some ⟨q0a,0,none⟩)) (.int .i64 (k:Int)) v12 v13 v14 v15 v18 us∧(k≤na∧∃ R r q F,RmPs w wr r0a q0a R R.z r q F∧RMb (k:Nat) ((k:Nat)*100000) R∧R.cl.length=nu)
theorem Qj2 {a:Act}(hd:a.defers=[])(hs:a.tmps.size=345):∃ v0 v1 v2 v7 v9 v11 v12 v13 v14 v15 v18 us,a=FR v0 v1 v2 v7 v9 v11 v12 v13 v14 v15 v18 us :=
 ⟨_,_,_,_,_,_,_,_,_,_,_,Qd5 hd hs rfl rfl rfl rfl rfl rfl rfl rfl rfl rfl rfl⟩
section
attribute [local go_sem] Qr
theorem Qt4 {Q:Exit→Act→World→Prop}{v0 v1:Value}{w:World}{r0a q0a:Nat}{A:Option Addr}{na cc nu:Nat}{L:List (EN × Value)}
  (hsl:Sl w 3 (.slice A na cc) na (ens L)) (hln:L.length=na) (hok:∀ p∈L,ActOk w p) (hna:na≤50) (hnu6:nu≤6)
  (hret:∀ a w',a.defers=[]→a.tmps.size=345→a.tmps.getD 6 undef=.bool true→Below w.heap.size w w'→Q .ret a w')
  (hout:∀ a w',a.defers=[]→a.tmps.size=345→Below w.heap.size w w'→Q (.exit 0) a w') (a:Act) (wr:World) (hI:RqI w v0 v1 (.slice A na cc) r0a q0a na nu a wr) :
  Qbg.wp Tryz.prog (Exit.then (Met fun a' w'=>RqI w v0 v1 (.slice A na cc) r0a q0a na nu a' w'∧na-(intOf (a'.tmps.getD 11 undef)).toNat<na-(intOf (a.tmps.getD 11 undef)).toNat) Q) a wr:=by
 obtain⟨k,v12,v13,v14,v15,v18,us,rfl,hk,R,r,q,F,hps,hrb,hcl⟩:=hI;refine Zz (fun J hJ=>?_)
 by_cases hkn:k<na
 ·have hm:na-(intOf (.int .i64 ((k:Int)+1))).toNat<na-(intOf (.int .i64 (k:Int))).toNat:=by simp only[intOf];omega
  change Code.wp _ (Code.seq Qtu (Code.seq (Code.block _ Qbh) Qtv)) _ _ _;refine Je (fun a' w'=>∃ us',a'=FR v0 v1 (.slice A na cc) (.pointer (some ⟨r0a,0,none⟩)) (.pointer (some ⟨q0a,0,none⟩)) (.int .i64 (k:Int)) v12 v13 v14 v15 v18 us'∧wr=w') ?_ ?_
  ·refine Zz (fun J' hJ'=>?_);change Code.wp _ (Code.seq _ _) _ _ _;unfold FR;clear hJ hret hout;go_wp2_with fail;exact Met.intro (hJ' _ _ (QP rfl rfl rfl rfl rfl rfl rfl rfl rfl rfl rfl rfl rfl rfl))
  rintro a1 w1 ⟨us1,rfl,rfl⟩;refine Je (fun a' w'=>∃ (v12' v13' v14' v15' v18':Value) (us':Nat→Value),a'=FR v0 v1 (.slice A na cc) (.pointer (some ⟨r0a,0,none⟩)) (.pointer (some ⟨q0a,0,none⟩)) (.int .i64 (k:Int)) v12' v13' v14' v15' v18' us'∧∃ R' r' q' F',RmPs w w' r0a q0a R' R'.z r' q' F'∧RMb ((k+1:Nat):Int) ((k+1:Nat)*100000) R'∧R'.cl.length=nu) ?_ ?_
  ·refine Zz (fun J' hJ'=>?_);refine wp_block ?_;rw[Qtw];refine Qn9 hsl hln hok hps hrb hcl (by omega) hnu6 hkn (fun a w' h1 h2 h3 h4=>hret a w' h1 h2 h3 h4) (fun us2 w6 B px py Aq cq op hx6 hso hq=>?_);obtain⟨Ac,ccl,z1,zl⟩:=hx6.vcs (nu:=nu) hcl;obtain⟨y0,-,-⟩:=Qy hx6.box;have hnw4:R.way.length≤400:=hrb.ok.wl;refine Je _ (Qo4 y0 z1 zl hx6.box.lt hnu6 hnw4) ?_;rintro a3 w3 ⟨us3,rfl,rfl⟩;refine Je _ (Qt3 hx6 hrb hcl rfl (by omega) hnu6 hso hq) ?_;rintro a4 w4 ⟨us4,rfl,R',hA⟩;refine Je _ (Qr6 hA) ?_;rintro a5 w5 ⟨us5,rfl,hb5⟩;obtain⟨⟨r7,q7,F7,hps7,hn7⟩,hbx7⟩:=hA.px;have hps8:=hps7.below hb5;refine wp_mono (Qqr (Q:=Exit.inBlock 1 (Exit.then (Met J') (Exit.then (Met J) Q))) hps8 hA.cl hnu6) ?_;rintro e a6 w6' hq6
   cases e with
   | normal =>
    obtain⟨v18',us6,rfl,hb6⟩:=hq6;exact Met.intro (hJ' _ _ ⟨_,_,_,_,v18',us6,rfl,R',r7,q7,F7,hps8.below hb6,hA.ok,hA.cl⟩)
   | _=>exact hq6
  rintro a2 w2 ⟨v12',v13',v14',v15',v18',us2,rfl,R',r',q',F',hps',hrb',hcl'⟩;change Code.wp _ (Code.region _ _ _) _ _ _;unfold FR;have HJ:=Hm hJ;clear hJ hret hout hsl hok;go_wp2_with fail;exact Met.intro (HJ.o _ _ ⟨⟨k+1,v12',v13',v14',v15',v18',QP rfl rfl rfl rfl rfl rfl rfl (by go_num) rfl rfl rfl rfl rfl ⟨by omega,R',r',q',F',hps',hrb',hcl'⟩⟩,hm⟩)
 ·obtain rfl:k=na:=by omega
  have HX:=Hm hout;have HB:=Hm hps.bel;clear hJ hret hout hps hrb hcl hsl hok;change Code.wp _ (Code.seq (Code.seq (Code.region _ _ _) (Code.cond _ _ _)) _) _ _ _;unfold FR;go_wp2_with fail;exact HX.o _ _ rfl rfl HB.o
end
end
section
open Go.RowKit Go.Sort
abbrev FTq:TypeId:=31
section
attribute [local go_sem] Qr
theorem roomPlays_walk {s:U.Bs}{vu va:Value}{nu na:Nat}{us:List Int}{L:List (EN × Value)}{w:World}(hg:Hdl w)(hu:Sl w 1 vu nu (us.map fun u=>.int .i64 u))(hsl:Sl w 3 va na (ens L))(hln:L.length=na)(hok:∀ p∈L,ActOk w p)(hsm:s.length≤maxLen) :
  Calls prog 6 #[.string ⟨s.toArray⟩,vu,va] w fun e w'=>e=.returned (.bool true)∧Below w.heap.size w w':=by
 have HG:=Hm hg;have HSL:=Hm hsl;have HLN:=Hm hln;have HOK:=Hm hok;have HU:=Hm hu;have hul:us.length=nu:=by have:=hu.len;rw[Wbi] at this;omega
 have HUL:=Hm hul;obtain⟨A,cc,rfl,-⟩:=hsl;obtain⟨Au,cu,rfl,-⟩:=hu;unfold maxLen at hsm;clear hg hln hok hul
 by_cases h1:300<s.length
 ·have hi:(300:Int)<(s.length:Int):=by omega
  go_enter func6,ntmps6
  go_wp2_with fail;go_ret
  exact⟨rfl,Wac _ _⟩
 have hi_h1:¬ (300:Int)<(s.length:Int):=by omega
 by_cases h2:9<nu
 ·have hi:(9:Int)<(nu:Int):=by omega
  go_enter func6,ntmps6
  go_wp2_with fail;go_ret
  exact⟨rfl,Wac _ _⟩
 have hi_h2:¬ (9:Int)<(nu:Int):=by omega
 by_cases h3:50<na
 ·have hi:(50:Int)<(na:Int):=by omega
  go_enter func6,ntmps6
  go_wp2_with fail;go_ret
  exact⟨rfl,Wac _ _⟩
 have hi_h3:¬ (50:Int)<(na:Int):=by omega
 obtain⟨rs,rest,hsp⟩:=U.sp_exists s;have HNW:=Hm (Qr5 hsp (by omega) HG.o HU.o);have HRN:=fun W (hb:Below w.heap.size w W)=>Hm (Qr0 hsp (by omega) (HU.o.below hb))
 have HNB:Hd (nu≤9∧na≤50∧s.length≤300):=⟨by omega⟩;have HALL:=Hm hsp.all
 by_cases hr:rest=[]
 ·have HR:=Hm hr;have hen:s=U.encs rs:=by have h:=hsp.eq;rw[hr,Wam] at h;exact h
  have hbl:bl rs≤300:=by show (U.encs rs).length≤300;rw[← hen];omega
  have HBL:Hd (bl rs≤2000):=⟨by omega⟩
  by_cases h6:6<nu
  ·have H6:=Hm (show 6<us.length by have:=HUL.o;omega);clear hsp hr hen hbl h6 h1 h2 h3 hsm;go_enter func6,ntmps6
   go_wp2_with (first
    | (go_at_call 23;refine HNW.o.mono ?_;rintro e w1 ⟨hb1,h1⟩;obtain rfl:=h1.2.2.1 HR.o HBL.o H6.o;unfold errno;have HB1:=Hm hb1;clear hb1 h1)
    | (go_at_call 34;refine (HRN _ HB1.o).out.mono ?_;rintro e w2 ⟨hb2,h2⟩;obtain rfl:=h2.2.2.1 HR.o HBL.o H6.o;have HB2:=Hm (Qb HB1.o hb2);clear hb2 h2)
    | (go_at_call 9;refine (JY (.no 4) (HG.o.below (Qa HB2.o _))).mono ?_;rintro e w3 ⟨rfl,hb3⟩;have HB3:=Hm (Qb (Qa HB2.o _) hb3);clear hb3))
   go_ret
   exact⟨rfl,HB3.o⟩
  have H6:Hd (us.length≤6):=⟨by have:=HUL.o;omega⟩
  by_cases hbad:∃ u∈us,¬ (1≤u∧u≤3)
  ·have HBD:=Hm hbad;clear hsp hr hen hbl h6 h1 h2 h3 hsm hbad;go_enter func6,ntmps6
   go_wp2_with (first
    | (go_at_call 23;refine HNW.o.mono ?_;rintro e w1 ⟨hb1,h1⟩;obtain rfl:=h1.2.2.2.1 HR.o HBL.o H6.o HBD.o;unfold errno;have HB1:=Hm hb1;clear hb1 h1)
    | (go_at_call 34;refine (HRN _ HB1.o).out.mono ?_;rintro e w2 ⟨hb2,h2⟩;obtain rfl:=h2.2.2.2.1 HR.o HBL.o H6.o HBD.o;have HB2:=Hm (Qb HB1.o hb2);clear hb2 h2)
    | (go_at_call 9;refine (JY (.no 1) (HG.o.below (Qa HB2.o _))).mono ?_;rintro e w3 ⟨rfl,hb3⟩;have HB3:=Hm (Qb (Qa HB2.o _) hb3);clear hb3))
   go_ret
   exact⟨rfl,HB3.o⟩
  have HUG:Hd (∀ u∈us,1≤u∧u≤3):=⟨fun u hu=>Decidable.not_not.1 (fun h=>hbad ⟨u,hu,h⟩)⟩;have HU6:Hd (nu≤6):=⟨by omega⟩;clear hsp hr hen hbl h6 h1 h2 h3 hsm hbad;go_enter func6,ntmps6
  go_wp2_with (first
   | (go_at_call 23;refine HNW.o.mono ?_;rintro e w1 ⟨hb1,h1⟩;obtain⟨r0,rfl,hr0,hr1⟩:=h1.2.2.2.2 HR.o HBL.o H6.o HUG.o;have HB1:=Hm hb1;have HR0:=Hm (Wao hr0 hr1);clear hb1 h1 hr0 hr1)
   | (go_at_call 34;refine (HRN _ HB1.o).out.mono ?_;rintro e w2 ⟨hb2,h2⟩;obtain⟨q0,rfl,hq0,hq1⟩:=h2.2.2.2.2 HR.o HBL.o H6.o HUG.o;have HPS:=Hm ((RmPs.start HB1.o HR0.o.2 HR0.o.1 hb2 hq0 hq1).below (Qa (Wac _ _) (.cells #[.int .i64 0,.int .i64 (-1)] FTq)));clear hb2 h2 hq0 hq1))
  obtain⟨w3,hw3⟩:∃ W,W=w2.alloc (.cells #[.int .i64 0,.int .i64 (-1)] FTq):=⟨_,rfl⟩;rw[← hw3] at HPS;rw[← hw3];clear hw3
  have HI0:Hd (RMb (0:Nat) ((0:Nat)*100000) (RM.new rs us)∧(RM.new rs us).cl.length=nu):=⟨by
   obtain⟨h1,h2⟩:=RMok.new (R:=rs) (us:=us) HALL.o HBL.o HUG.o;refine⟨⟨h1,h2,Wba _,Wba _⟩,?_⟩
   show (us.zipIdx.map _).length=nu
   rw[Wbi,List.length_zipIdx,HUL.o]⟩
  have hna:na≤50:=HNB.o.2.1;have hnu6:nu≤6:=HU6.o;refine Qjw (RqI w (.string ⟨s.toArray⟩) (.slice Au nu cu) (.slice A na cc) r0.a q0.a na nu) (fun a _=>na-(intOf (a.tmps.getD 11 undef)).toNat) ?_ ?_
  ·exact⟨0,_,_,_,_,_,QP rfl rfl rfl rfl rfl rfl rfl rfl rfl rfl rfl rfl rfl ⟨Nat.zero_le _,_,_,_,_,HPS.o,HI0.o.1,HI0.o.2⟩⟩
  ·intro a wr hI;refine Qt4 HSL.o HLN.o HOK.o hna hnu6 ?_ ?_ a wr hI
   ·intro a' w' h1 h2 h3 hb;obtain⟨v0,v1,v2,v7,v9,v11,v12,v13,v14,v15,v18,us',rfl⟩:=Qj2 h1 h2;have h4:us' 6=.bool true:=h3;clear hI h1 h2 h3 HPS HI0 HNW HRN HR0 HB1;unfold FR;rw[h4];go_ret
    exact⟨rfl,hb⟩
   ·intro a' w' h1 h2 hb;obtain⟨v0,v1,v2,v7,v9,v11,v12,v13,v14,v15,v18,us',rfl⟩:=Qj2 h1 h2;clear hI h1 h2 HPS HI0 HNW HRN HR0 HB1;unfold FR;simp only[Exit.inBlock,Exit.then,if_true];go_wp2_with fail;go_ret
    exact⟨rfl,hb⟩
 ·have HR:=Hm hr;clear hsp hr h1 h2 h3 hsm;go_enter func6,ntmps6
  go_wp2_with (first
   | (go_at_call 23;refine HNW.o.mono ?_;rintro e w1 ⟨hb1,h1⟩;obtain⟨g,rfl,hat⟩:=h1.1 HR.o;have HB1:=Hm hb1;have HAT:=Hm hat;clear hb1 h1 hat)
   | (go_at_call 34;refine (HRN _ HB1.o).out.mono ?_;rintro e w2 ⟨hb2,h2⟩;obtain rfl:=h2.1 HR.o;have HAT2:=Hm (HAT.o.below hb2);have HB2:=Hm (Qb HB1.o hb2);clear hb2 h2)
   | (go_at_call 9;refine (JY (.at_ g _ _ (HAT2.o.below (Qa (Wac _ _) _))) (HG.o.below (Qa HB2.o _))).mono ?_;rintro e w3 ⟨rfl,hb3⟩;have HB3:=Hm (Qb (Qa HB2.o _) hb3);clear hb3))
  go_ret
  exact⟨rfl,HB3.o⟩
end
end
end Go.Proofs.YtdgdajnbkfmijaaGreatDoor
