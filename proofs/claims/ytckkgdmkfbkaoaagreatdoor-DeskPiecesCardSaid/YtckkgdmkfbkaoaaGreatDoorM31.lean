/- Texts of the proof. -/
import Derived.Test.YtckkgdmkfbkaoaaGreatDoorM29
import Derived.Test.YtckkgdmkfbkaoaaGreatDoorM30
namespace Go.Proofs.YtckkgdmkfbkaoaaGreatDoor
open Go.Proofs.Tryz
set_option maxRecDepth 100000
set_option maxHeartbeats 32000000
set_option linter.all false
section
open Go.RowKit
theorem QX {g a m:Nat}{v:Value}{k:Int}{w:World}(hb:Blk w g 388 #[v,.int .i64 a])(hk:k=m)(ha:a≤4611686018427387903)(hm:m≤4611686018427387903) :
  Calls prog 276 #[.pointer (some ⟨g,0,none⟩),.int .i64 k] w fun e w'=>e=.returned (.tuple #[])∧w'=w.setCell ⟨g,1,none⟩ (.int .i64 ((a+m:Nat):Int)):=by
 subst hk;have c0:=hb.cell 0;have c1:=hb.cell 1;have cf:=hb.frozen;simp only[Wab,Waa,Wae] at c0 c1;clear hb;go_enter func276,ntmps276
 go_wp2_with fail;go_end0
 exact⟨rfl,by go_num⟩
def YR (u:List PT):List PT:=(Qq .zero u).all
theorem Qb5 {l:List PT}(h:∀ p∈l,p.arg):norm l=YR (Qi l):=by unfold norm YR;rw[Qpx _ h]
theorem Qe0 {p:PT}(h:p.arg):(Qw p.exp:Int)=p.keep+p.drop∧(QH p.exp:Int)=p.keep+p.put.length∧(p.exp.length:Int)=p.keep+p.drop+p.put.length:=by
 rcases h.cases with ⟨b,hb,rfl⟩ | ⟨n,hn,rfl⟩ | ⟨n,hn,rfl⟩
 ·rw[Ye,Qf3,Qcj];simp
 ·rw[Ym,Qf2]
  have:=Y7 n true
  simp only[unit,if_true] at this;rw[this];simp
 ·rw[Yn,Qaa]
  have:=Y7 n false
  simp only[unit,if_false,Bool.false_eq_true] at this;rw[this];simp
theorem XH {l:List PT}(h:∀ p∈l,p.arg):(Qw (Qi l):Int)=was l∧(QH (Qi l):Int)=comes l∧((Qi l).length:Int)=was l+Qd l:=by
 induction l with
 | nil=>simp[Qi,Qw,QH,was,comes,Qd]
 | cons p l ih =>
  obtain⟨a,b,c⟩:=ih (fun q hq=>h q (by simp[hq]));obtain⟨d,e,f⟩:=Qe0 (h p (by simp));rw[XA,Y6,X6,Wad,was,comes,Qd]
  exact⟨by omega,by omega,by omega⟩
theorem Qlz (first:Bool)(x y:List PT):(tr first x y).length≤x.length+y.length:=by
 induction x,y using tr.induct (first:=first) with
 | case1 p x q y h ih=>rw[tr,if_pos h];simp at ih ⊢;omega
 | case2 p x q y h h2 ih=>rw[tr,if_neg h,if_pos h2];simp at ih ⊢;omega
 | case3 p x q y h h2 h3 ih=>rw[tr,if_neg h,if_neg h2,if_pos h3];simp at ih ⊢;omega
 | case4 p x q y h h2 h3 ih=>rw[tr,if_neg h,if_neg h2,if_neg h3];simp at ih ⊢;omega
 | case5 p x h ih=>rw[tr,if_pos h];simp at ih ⊢;omega
 | case6 p x h=>rw[tr,if_neg h];simp
 | case7 q y h ih=>rw[tr,if_pos h];simp at ih ⊢;omega
 | case8 q y h=>rw[tr,if_neg h];simp
 | case9=>rw[tr];simp
theorem Ql0 (x y:List PT):(cm x y).length≤x.length+y.length:=by
 induction x,y using cm.induct with
 | case1 p x q y h ih=>rw[cm,if_pos h];simp at ih ⊢;omega
 | case2 p x q y h h2 ih=>rw[cm,if_neg h,if_pos h2];simp at ih ⊢;omega
 | case3 p x q y h h2 h3 ih=>rw[cm,if_neg h,if_neg h2,if_pos h3];split<;>simp at ih ⊢<;>omega
 | case4 p x q y h h2 h3 ih=>rw[cm,if_neg h,if_neg h2,if_neg h3];split<;>simp at ih ⊢<;>omega
 | case5 p x h ih=>rw[cm,if_pos h];simp at ih ⊢;omega
 | case6 p x h=>rw[cm,if_neg h];simp
 | case7 q y h ih=>rw[cm,if_pos h];simp at ih ⊢;omega
 | case8 q y h=>rw[cm,if_neg h];simp
 | case9=>rw[cm];simp
theorem JS {l:List PT}(h:∀ p∈l,p.arg)(hw:was l≤1000000)(hp:Qd l≤1000000):Tbd l:=by
 intro p hp';obtain⟨_,h2,h3⟩:=h p hp'
 suffices hs:p.keep+p.drop≤was l∧p.put.length≤Qd l by omega
 clear hw hp
 induction l with
 | nil=>simp at hp'
 | cons q l ih =>
  have hn:=ZJ (l:=l) (fun r hr=>h r (by simp[hr]));obtain⟨_,h4,h5⟩:=h q (by simp);rw[was,Qd];rcases Wbk.1 hp' with e | e
  ·subst e;omega
  ·obtain⟨a,b⟩:=ih (fun r hr=>h r (by simp[hr])) e;omega
structure TI (W0 wr:World)(gx gy:Nat)(vx:Value)(nx:Nat)(lx:List PT)(ax:Nat)(vy:Value)(ny:Nat)(ly:List PT)(ay:Nat)(vo:Value)(out:List PT):Prop where
 bx:Blk wr gx 388 #[vx,.int .i64 ax]
 by_:Blk wr gy 388 #[vy,.int .i64 ay]
 sx:Sl W0 3 vx nx (opv lx)
 sy:Sl W0 3 vy ny (opv ly)
 ox:Tok lx ax
 oy:Tok ly ay
 own:wr.ownsRow W0.heap.size 117 3 vo out.length (opv out)
 only:Only (fun k=>k=gx∨k=gy) W0 wr
structure TG (W0:World)(gx gy:Nat):Prop where
 tx:∃ a b,Blk W0 gx 388 #[a,b]
 ty:∃ a b,Blk W0 gy 388 #[a,b]
 ne:gx≠gy
theorem Qe1 {W0 w':World}{gx gy n:Nat}{l:List PT}{v:Value}(hg:TG W0 gx gy)(hs:Sl W0 3 v n (opv l))(ho:Only (fun k=>k=gx∨k=gy) W0 w'):Sl w' 3 v n (opv l):=by
 obtain⟨a,b,hx⟩:=hg.tx;obtain⟨c,d,hy⟩:=hg.ty;refine hs.only ho ?_;rintro⟨b,o,p⟩ c rfl hn h
 cases l with
 | nil=>have:=hs.len;simp[opv] at this;omega
 | cons q l =>
  obtain⟨b',o',m,c',rfl,hv,_⟩:=hs.head
  cases hv
  rcases h with h | h
  ·exact JJ hs (by omega) hx h
  ·exact JJ hs (by omega) hy h
section
variable {W0 wr w1:World}{gx gy:Nat}{vx vy vo:Value}{nx ny ax ay:Nat}{lx ly out:List PT}
theorem TI.px (h:TI W0 wr gx gy vx nx lx ax vy ny ly ay vo out)(hg:TG W0 gx gy):Tp_ wr gx vx nx lx ax:=⟨h.bx,Qe1 hg h.sx h.only,h.ox⟩
theorem TI.py (h:TI W0 wr gx gy vx nx lx ax vy ny ly ay vo out)(hg:TG W0 gx gy):Tp_ wr gy vy ny ly ay:=⟨h.by_,Qe1 hg h.sy h.only,h.oy⟩
theorem TG.ltx (hg:TG W0 gx gy):gx<W0.heap.size:=by obtain⟨a,b,h⟩:=hg.tx;exact h.lt
theorem TG.lty (hg:TG W0 gx gy):gy<W0.heap.size:=by obtain⟨a,b,h⟩:=hg.ty;exact h.lt
theorem TI.nx_ {vx2:Value}{nx2 ax2:Nat}{lx2:List PT}(h:TI W0 wr gx gy vx nx lx ax vy ny ly ay vo out)(hg:TG W0 gx gy)(ht:Tp_ w1 gx vx2 nx2 lx2 ax2)
  (htr:∀ W,Sl W 3 vx nx (opv lx)→Sl W 3 vx2 nx2 (opv lx2)) (ho:Only (fun k=>k=gx) wr w1):TI W0 w1 gx gy vx2 nx2 lx2 ax2 vy ny ly ay vo out :=
 ⟨ht.blk,h.by_.only ho (fun e=>hg.ne e.symm),htr _ h.sx,h.sy,ht.ok,h.oy,Q9 h.own ho (fun k hk e=>by have:=(h.own.lt k hk).1;have:=hg.ltx;omega),h.only.step ho (fun _ _ e=>.inl e)⟩
theorem TI.ny_ {vy2:Value}{ny2 ay2:Nat}{ly2:List PT}(h:TI W0 wr gx gy vx nx lx ax vy ny ly ay vo out)(hg:TG W0 gx gy)(ht:Tp_ w1 gy vy2 ny2 ly2 ay2)
  (htr:∀ W,Sl W 3 vy ny (opv ly)→Sl W 3 vy2 ny2 (opv ly2)) (ho:Only (fun k=>k=gy) wr w1):TI W0 w1 gx gy vx nx lx ax vy2 ny2 ly2 ay2 vo out :=
 ⟨h.bx.only ho (fun e=>hg.ne e),ht.blk,h.sx,htr _ h.sy,h.ox,ht.ok,Q9 h.own ho (fun k hk e=>by have:=(h.own.lt k hk).1;have:=hg.lty;omega),h.only.step ho (fun _ _ e=>.inr e)⟩
theorem TI.alloc (h:TI W0 wr gx gy vx nx lx ax vy ny ly ay vo out)(o:Obj):TI W0 (wr.alloc o) gx gy vx nx lx ax vy ny ly ay vo out :=
 ⟨h.bx.alloc o,h.by_.alloc o,h.sx,h.sy,h.ox,h.oy,h.own.alloc o,h.only.alloc o⟩
theorem TI.add {p:PT}{v2:Value}{N:Nat}(h:TI W0 wr gx gy vx nx lx ax vy ny ly ay vo out)(hg:TG W0 gx gy)(hN:out.length=N)(ho:w1.ownsRow W0.heap.size 117 3 v2 (N+1) (opv out++p.cells))
  (hb:Below W0.heap.size wr w1) (hgr:wr.grownBy w1 vo.ownBlock):TI W0 w1 gx gy vx nx lx ax vy ny ly ay v2 (out++[p]):=by
 refine⟨h.bx.below hb hg.ltx,h.by_.below hb hg.lty,h.sx,h.sy,h.ox,h.oy,?_,h.only.step (Only.of_grown hgr) (fun i hi e=>?_)⟩
 ·rw[Yo,YV,Wad,hN];exact ho
 ·have:=(h.own.lt i e.symm).1
  omega
theorem TI.tkx {m:Nat}(h:TI W0 wr gx gy vx nx lx ax vy ny ly ay vo out)(hg:TG W0 gx gy)(hok:Tok lx (ax+m)):TI W0 (wr.setCell ⟨gx,1,none⟩ (.int .i64 ((ax+m:Nat):Int))) gx gy vx nx lx (ax+m) vy ny ly ay vo out :=
 ⟨h.bx.set_ 1 _,h.by_.far (p:=⟨gx,1,none⟩) (Ne.symm hg.ne) _,h.sx,h.sy,hok,h.oy,ownsRow_setCell_other h.own (fun e=>Nat.lt_irrefl _ (Wal hg.ltx (h.own.lt _ e).1)) _,h.only.setCell (p:=⟨gx,1,none⟩) (.inl (.inl rfl)) _⟩
theorem TI.tky {m:Nat}(h:TI W0 wr gx gy vx nx lx ax vy ny ly ay vo out)(hg:TG W0 gx gy)(hok:Tok ly (ay+m)):TI W0 (wr.setCell ⟨gy,1,none⟩ (.int .i64 ((ay+m:Nat):Int))) gx gy vx nx lx ax vy ny ly (ay+m) vo out :=
 ⟨h.bx.far (p:=⟨gy,1,none⟩) hg.ne _,h.by_.set_ 1 _,h.sx,h.sy,h.ox,hok,ownsRow_setCell_other h.own (fun e=>Nat.lt_irrefl _ (Wal hg.lty (h.own.lt _ e).1)) _,h.only.setCell (p:=⟨gy,1,none⟩) (.inl (.inr rfl)) _⟩
end
end
section
open Go.RowKit
theorem Qa0 {l:List PT}{a:Nat}(h:Tok l a)(hb:Tbd l):a≤4611686018427387903:=by
 cases l with
 | nil=>have:a=0:=h.2;omega
 | cons p l =>
  have h1:a≤p.size:=h.2;obtain⟨b1,b2,b3⟩:=hb p (by simp);rcases (h.1 p (by simp)).cases with ⟨b,hb,rfl⟩ | ⟨n,hn,rfl⟩ | ⟨n,hn,rfl⟩
  ·rw[size_put] at h1;dsimp only at b1;omega
  ·rw[XL] at h1;dsimp only at b3;omega
  ·rw[XM] at h1;dsimp only at b2;omega
theorem Xu {l l2:List PT}(h:Tbd l)(hm:∀ q∈l2,q∈l):Tbd l2:=fun p hp=>h p (hm p hp)
def Qs2 (c:Int)(U:List PT)(w:World)(e:Ending)(w':World):Prop :=
 Below w.heap.size w w'∧∃ v,e=.returned (.tuple #[v,Q4 c])∧(c=0→Sl w' 3 v (YR U).length (opv (YR U)))∧(c≠0→v=.slice none 0 0)
def Qic (c:Int)(U:List PT)(w:World)(e:Ending)(w':World):Prop:=Qs2 c U w e w'∧FrE w.heap.size e
noncomputable def trc (a b:List PT):Int:=if Zf a b=0 then (if was a=was b then 0 else 2) else Zf a b
theorem Qid {a b:List PT}(h:Zf a b=0):(∀ p∈a,p.Good)∧(∀ p∈b,p.Good):=by
 unfold Zf at h
 split at h
 ·rename_i h1;exact⟨Qak h1,Qak h⟩
 ·rename_i h1;exact absurd h h1
theorem YK {a:Int}(h:0≤a)(h2:a≤100000000):wrap64 a=a:=by unfold wrap64;omega
structure Mo (l:List PT)(n:Nat):Prop where
 put:∀ p∈l,p.put.length≤35184372087808
 len:n≤2000000
 siz:(∀ p∈l,p.arg)→was l≤1000000∧Qd l≤900000
theorem Mo.bd {l:List PT}{n:Nat}(h:Mo l n)(ha:∀ p∈l,p.arg):was l≤1000000∧Qd l≤900000∧0≤was l:=⟨(h.siz ha).1,(h.siz ha).2,ZJ ha⟩
structure TRr (U:List PT)(T:Nat)(f:List PT→List PT→List PT)(m1 m2:List PT→Nat)(A B:List PT)(W0 wr:World)(gx gy:Nat)(gk:Nat)(vx:Value)(nx:Nat)(lx:List PT)(ax:Nat)(vy:Value)(ny:Nat)(ly:List PT)(ay:Nat)(vo:Value)(out:List PT):Prop where
 ti:TI W0 wr gx gy vx nx lx ax vy ny ly ay vo out
 arg:∀ p∈out,p.arg
 eq:Qi out++f (tape lx ax) (tape ly ay)=U
 bal:m1 (tape lx ax)=m2 (tape ly ay)
 hgk:gk=(tape lx ax).length+(tape ly ay).length
 len:out.length+gk≤T
 mx:∀ q∈lx,q∈A
 my:∀ q∈ly,q∈B
theorem Nx.arg_ {u:List PT}{p:PT}{s:Bool}(h:Nx u p s)(hs:s=true):p.arg∧(p.size:Int)=p.keep+p.drop+p.put.length∧p.size≤u.length:=by
 rcases h with ⟨_,ha,r,rfl⟩ | ⟨h,_⟩
 ·exact⟨ha,(Qe0 ha).2.2,by rw[Wad];unfold PT.size;omega⟩
 ·subst hs;exact absurd h (by decide)
theorem Qa1 {l:List PT}(h:∀ p∈l,p.arg):Tok l 0:=⟨h,by cases l with | nil=>rfl | cons=>exact Nat.zero_le _⟩
theorem TRr.step {U:List PT}{T:Nat}{f:List PT→List PT→List PT}{m1 m2:List PT→Nat}{A B:List PT}{W0 wr w':World}{gx gy gk nx ax ny ay nx2 ax2 ny2 ay2 i j:Nat}{vx vy vo vx2 vy2 vo2:Value}{lx ly out lx2 ly2 out':List PT}
  (h:TRr U T f m1 m2 A B W0 wr gx gy gk vx nx lx ax vy ny ly ay vo out) (hti:TI W0 w' gx gy vx2 nx2 lx2 (ax2+i) vy2 ny2 ly2 (ay2+j) vo2 out') (harg:∀ p∈out',p.arg)
  (heq:Qi out'++f ((tape lx ax).drop i) ((tape ly ay).drop j)=Qi out++f (tape lx ax) (tape ly ay)) (hbal:m1 ((tape lx ax).drop i)=m2 ((tape ly ay).drop j))
  (hi:i≤(tape lx ax).length) (hj:j≤(tape ly ay).length) (hij:0<i+j) (hlen:out'.length≤out.length+1) (hp1:tape lx2 ax2=tape lx ax) (hp2:tape ly2 ay2=tape ly ay)
  (hm1:∀ q∈lx2,q∈lx) (hm2:∀ q∈ly2,q∈ly):((tape lx ax).length-i+((tape ly ay).length-j))<gk∧TRr U T f m1 m2 A B W0 w' gx gy ((tape lx ax).length-i+((tape ly ay).length-j)) vx2 nx2 lx2 (ax2+i) vy2 ny2 ly2 (ay2+j) vo2 out':=by
 have e1:tape lx2 (ax2+i)=(tape lx ax).drop i:=by rw[Qf0,hp1]
 have e2:tape ly2 (ay2+j)=(tape ly ay).drop j:=by rw[Qf0,hp2]
 have hg:=h.hgk;have hl:=h.len;refine⟨by omega,hti,harg,?_,?_,?_,by omega,fun q hq=>h.mx q (hm1 q hq),fun q hq=>h.my q (hm2 q hq)⟩
 ·rw[e1,e2,heq,h.eq]
 ·rw[e1,e2,hbal]
 ·rw[e1,e2,War,War]
theorem Yj {out:List PT}{p:PT}(h:∀ q∈out,q.arg)(hp:p.arg):∀ q∈out++[p],q.arg:=by
 intro q hq;rw[List.mem_append] at hq;rcases hq with hq | hq
 ·exact h q hq
 ·obtain rfl:=Wbd.1 hq;exact hp
section
attribute [local go_sem] Qz
theorem Qie {la lb:List PT}{va vb:Value}{na nb:Nat}{first:Bool}{w:World}(hg:Hdl w)(ha:Sl w 3 va na (opv la))(hb:Sl w 3 vb nb (opv lb))(hfa:Mo la na)(hfb:Mo lb nb) :
  Calls prog 295 #[va,vb,.bool first] w (Qic (trc la lb) (tr first (Qi (norm la)) (Qi (norm lb))) w):=by
 have hla:la.length=na:=by have:=ha.len;rw[Zw] at this;omega
 have hlb:lb.length=nb:=by have:=hb.len;rw[Zw] at this;omega
 have HG:=Hm hg;have HA:=Hm ha;have HB:=Hm hb;have hna:=hfa.len;have hnb:=hfb.len;have HFA:=Hm hfa;have HFB:=Hm hfb;obtain⟨A1,c1,rfl,-⟩:=ha;obtain⟨A2,c2,rfl,-⟩:=hb;clear hg hfa hfb;go_enter func295,ntmps295
 go_wp2_with fail;refine (Qhc HG.o HA.o HB.o HFA.o.put HFB.o.put).mono ?_;rintro e w1 ⟨rfl,hb1⟩;have HB1:=Hm hb1;clear hb1
 by_cases h0:Zf la lb=0
 ·obtain⟨ga,gb⟩:=Qid h0;have harga:∀ p∈la,p.arg:=fun p hp=>(ga p hp).1
  have hargb:∀ p∈lb,p.arg:=fun p hp=>(gb p hp).1
  obtain⟨f1,f2,f3⟩:=HFA.o.bd harga;obtain⟨f4,f5,f6⟩:=HFB.o.bd hargb;have ea:=YK f3 (by omega);have eb:=YK f6 (by omega);have HEA:=Hm ea;have HEB:=Hm eb;have HARA:=Hm harga;have HARB:=Hm hargb;have HWA:Hd (was la≤1000000∧Qd la≤900000∧0≤was la):=⟨by omega,by omega,f3⟩;have HWB:Hd (was lb≤1000000∧Qd lb≤900000∧0≤was lb):=⟨by omega,by omega,f6⟩;rw[h0,YC];have H0:=Hm h0;clear h0 ga gb harga hargb f1 f2 f3 f4 f5 f6 ea eb;go_wp2_with fail;refine (Xm (HA.o.below HB1.o)).mono ?_;rintro e w2 ⟨he,hb2⟩;rw[HEA.o] at he;subst he;have HB2:=Hm (Qa HB1.o hb2);clear hb2;go_wp2_with fail;refine (Xm (HB.o.below HB2.o)).mono ?_;rintro e w3 ⟨he,hb3⟩;rw[HEB.o] at he;subst he;have HB3:=Hm (Qa HB2.o hb3);clear hb3
  by_cases hw:was la=was lb
  ·have HTC:Hd (trc la lb=0):=⟨by unfold trc;rw[if_pos H0.o,if_pos hw]⟩;have HW:=Hm hw;have hw':(was lb == was la)=true:=by rw[hw];exact beq_self_eq_true _
   clear hw;go_wp2_with fail;refine (Qfn (HA.o.below HB3.o) HARA.o (by have:=HWA.o;omega) (by have:=HWA.o;omega) (by omega)).mono ?_;rintro e w4 ⟨⟨v4,rfl,hs4⟩,hb4⟩;have HB4:=Hm (Qa HB3.o hb4);have HS4:=Hm hs4;obtain⟨A4,c4,rfl,-⟩:=hs4;clear hb4;go_wp2_with fail;have hx5:Below w4.heap.size w4 (w4.alloc (.cells #[.slice A4 (norm la).length c4,.int .i64 0] 388)):=Qb (Wac _ _) _;refine (Qfn (HB.o.below (Qa HB4.o hx5)) HARB.o (by have:=HWB.o;omega) (by have:=HWB.o;omega) (by omega)).mono ?_;rintro e w6 ⟨⟨v6,rfl,hs6⟩,hb6⟩;have HB6:=Hm (Qa (Qa HB4.o hx5) hb6);have HX6:=Hm ((Blk.new w4 388 #[.slice A4 (norm la).length c4,.int .i64 0]).below hb6 (by simp));have HS5:=Hm ((HS4.o.below hx5).below hb6);have HS6:=Hm hs6;have hz46:w4.heap.size<w6.heap.size:=by have:=hb6.size;simp at this;omega
   obtain⟨A6,c6,rfl,-⟩:=hs6;clear hb6 hx5;obtain⟨no1,no2,no3⟩:=Qgy HARA.o;obtain⟨no4,no5,no6⟩:=Qgy HARB.o
   have HTI:Hd (TI (w6.alloc (.cells #[.slice A6 (norm lb).length c6,.int .i64 0] 388)) (w6.alloc (.cells #[.slice A6 (norm lb).length c6,.int .i64 0] 388)) w4.heap.size w6.heap.size (.slice A4 (norm la).length c4) (norm la).length (norm la) 0 (.slice A6 (norm lb).length c6) (norm lb).length (norm lb) 0 (.slice none 0 0) []) :=
    ⟨HX6.o.alloc _,Blk.new _ _ _,HS5.o.below (Qb (Wac _ _) _),HS6.o.below (Qb (Wac _ _) _),Qa1 no1,Qa1 no4,World.ownsRow_nil _ _ _ _,Only.refl _ _⟩
   have HTG:Hd (TG (w6.alloc (.cells #[.slice A6 (norm lb).length c6,.int .i64 0] 388)) w4.heap.size w6.heap.size):=⟨⟨⟨_,_,HX6.o.alloc _⟩,⟨_,_,Blk.new _ _ _⟩,by omega⟩⟩;have HB7:Hd (Below w.heap.size w (w6.alloc (.cells #[.slice A6 (norm lb).length c6,.int .i64 0] 388))):=⟨Qb HB6.o _⟩;obtain⟨em1,em2,em3⟩:=XH no1;obtain⟨em4,em5,em6⟩:=XH no4
   have HTR:Hd (∃ T,T≤4000000∧TRr (tr first (Qi (norm la)) (Qi (norm lb))) T (tr first) Qw Qw (norm la) (norm lb) (w6.alloc (.cells #[.slice A6 (norm lb).length c6,.int .i64 0] 388)) (w6.alloc (.cells #[.slice A6 (norm lb).length c6,.int .i64 0] 388)) w4.heap.size w6.heap.size T (.slice A4 (norm la).length c4) (norm la).length (norm la) 0 (.slice A6 (norm lb).length c6) (norm lb).length (norm lb) 0 (.slice none 0 0) []):=⟨by
    have h1:=HWA.o;have h2:=HWB.o;have h3:=HW.o;refine⟨(Qi (norm la)).length+(Qi (norm lb)).length,by omega,HTI.o,fun p hp=>by simp at hp,by simp[tape,expand_nil],?_,by simp[tape],by simp,fun q hq=>hq,fun q hq=>hq⟩;simp only[tape,List.drop_zero];omega⟩
   have HTX:Hd (Tbd (norm la)):=⟨JS no1 (by have:=HWA.o;omega) (by have:=HWA.o;omega)⟩;have HTY:Hd (Tbd (norm lb)):=⟨JS no4 (by have:=HWB.o;omega) (by have:=HWB.o;omega)⟩;have HUL:Hd ((tr first (Qi (norm la)) (Qi (norm lb))).length≤4000000):=⟨by have:=Qlz first (Qi (norm la)) (Qi (norm lb));have h1:=HWA.o;have h2:=HWB.o;omega⟩;clear no1 no2 no3 no4 no5 no6 em1 em2 em3 em4 em5 em6;generalize tr first (Qi (norm la)) (Qi (norm lb))=U at *;obtain⟨T,hT,htr⟩:=HTR.o;have HTR0:=Hm htr;have HW0:=Hm hT;clear htr HTR HTI;go_wp2_with fail;generalize (w6.alloc (.cells #[.slice A6 (norm lb).length c6,.int .i64 0] 388))=W0 at *
   go_loopg [13] T (fun gk so wr=>∃ vx nx lx ax vy ny ly ay out,TRr U T (tr first) Qw Qw (norm la) (norm lb) W0 wr w4.heap.size w6.heap.size gk vx nx lx ax vy ny ly ay so out)
   case atStart=>exact⟨_,_,_,_,_,_,_,_,_,HTR0.o⟩
   case round =>
    obtain⟨vx,nx,lx,ax,vy,ny,ly,ay,out,hrr⟩:=hrel;have HRR:=Hm hrr;obtain⟨Ao,co,rfl⟩:=Qm hrr.ti.own;clear hrr;go_wp2_with fail;refine (JK (HRR.o.ti.px HTG.o) (Xu HTX.o HRR.o.mx)).mono ?_;rintro e w7 ⟨vx2,nx2,lx2,ax2,⟨pk,pd,pb⟩,s,rfl,ht1,htp1,hnx1,htok1,hmem1,htr1,ho1⟩;have HT1:=Hm (HRR.o.ti.nx_ HTG.o ht1 htr1 ho1);have HP1:=Hm htp1;have HN1:=Hm hnx1;have HK1:=Hm htok1;have HM1:=Hm hmem1;have hz7:=ho1.size;clear ht1 htp1 hnx1 htok1 hmem1 htr1 ho1;dsimp only;go_wp2_with fail;refine (JK ((HT1.o.alloc _).py HTG.o) (Xu HTY.o HRR.o.my)).mono ?_;rintro e w8 ⟨vy2,ny2,ly2,ay2,⟨qk,qd,qb⟩,t,rfl,ht2,htp2,hnx2,htok2,hmem2,htr2,ho2⟩;have HT2:=Hm ((HT1.o.alloc _).ny_ HTG.o ht2 htr2 ho2);have HP2:=Hm htp2;have HN2:=Hm hnx2;have HK2:=Hm htok2;have HM2:=Hm hmem2;have HO2:=Hm ho2;clear ht2 htp2 hnx2 htok2 hmem2 htr2 ho2;dsimp only;have hgx:w.heap.size≤w4.heap.size:=HB4.o.size;have hgl:=HTG.o.ltx;have hgl2:=HTG.o.lty;have hz8:=HO2.o.size;simp only[Waq] at hz8;have hW0r:=HRR.o.ti.only.size;have hown0:∀ k,(Value.slice Ao out.length co).ownBlock=some k→k<wr.heap.size:=fun k hk=>(HRR.o.ti.own.lt k hk).2
    have hlen0:=HRR.o.len;have hT0:=HW0.o;have hpb:=(Blk.new w7 117 #[.int .i64 pk,.int .i64 pd,.string ⟨pb.toArray⟩]).only HO2.o (show ¬ w7.heap.size=w6.heap.size by omega);have HPB:=Hm hpb;have p0:=hpb.cell 0;have p1:=hpb.cell 1;have p2:=hpb.cell 2;simp only[Wab,Waa,Wae] at p0 p1 p2;have hgp:w7.heap.size<w8.heap.size:=by omega
    have HL1:Hd (out.length+1≤maxLen):=⟨by unfold maxLen;omega⟩;have HL2:Hd ((out.length+1)*32≤140737488355328):=⟨by omega⟩;have HL3:Hd (W0.heap.size≤w8.heap.size+1):=⟨by omega⟩;have HAX:=Hm (Qa0 HT2.o.ox (Xu HTX.o (fun q hq=>HRR.o.mx q (HM1.o q hq))));have HAY:=Hm (Qa0 HT2.o.oy (Xu HTY.o (fun q hq=>HRR.o.my q (HM2.o q hq))));clear hpb
    by_cases hpb0:pb=[]
    ·subst hpb0
     by_cases hqb0:qb=[]
     ·subst hqb0
      by_cases hst:s=true∨t=true
      ·skip
       obtain⟨m,hm0,hmin,hmx,hmy,hbal,hq1,hq2,hq3⟩:=Qnx (first:=first) (out:=out) HN1.o HN2.o rfl rfl HRR.o.bal hst
       have hs1:s=true:=by
        rcases HN1.o with ⟨h,_⟩ | ⟨_,h,_⟩
        ·exact h
        ·cases h;simp at hmin;omega
       have ht1:t=true:=by
        rcases HN2.o with ⟨h,_⟩ | ⟨_,h,_⟩
        ·exact h
        ·cases h;simp at hmin;omega
       subst hs1 ht1;obtain⟨hpa,hsz1,hsx⟩:=HN1.o.arg_ rfl;obtain⟨hqa,hsz2,hsy⟩:=HN2.o.arg_ rfl;obtain⟨_,hk0,hd0⟩:=hpa;obtain⟨_,hk1,hd1⟩:=hqa;dsimp only[List.length_nil] at hmin hsz1 hsz2 hk0 hd0 hk1 hd1 hq1 hq2 hq3;have hgk:=HRR.o.hgk;have hb1:pk≤4000000:=by omega
       have hb2:pd≤4000000:=by omega
       have hb3:qk≤4000000:=by omega
       have hb4:qd≤4000000:=by omega
       have HTK:=Hm (HK1.o m (by omega));have HTL:=Hm (HK2.o m (by omega));have HQ1:=Hm hq1;have HQ2:=Hm hq2;have HQ3:=Hm hq3;have HBAL:=Hm hbal;have HMIN:=Hm hmin;clear hq1 hq2 hq3 hbal hst hmin hsz1 hsz2 hsx hsy;go_upto_region 13 with fail
       have e20:(if qk+qd<pk+pd then qk+qd else pk+pd)=(m:Int):=by have:=HMIN.o;split<;>omega
       have hm1:m≤4611686018427387903:=by omega
       have HMX:=Hm hmx;have HMY:=Hm hmy;(first | rw[e20] | rw[show min (pk+pd) (qk+qd)=(m:Int) from by have:=HMIN.o;omega]);clear e20
       by_cases hqk:0<qk
       ·by_cases hpk:0<pk
        ·have HE:=Hm (HQ1.o hqk hpk);go_wp2_with (at_builtin;refine QE QK #[.int .i64 (m:Int),.int .i64 0,.string ⟨#[]⟩] (HT2.o.alloc _).own rfl rfl rfl rfl (by simp) rfl (QP rfl rfl rfl) HL1.o HL2.o (Zh HL3.o) ?_;intro v9 w9 hown9 hbel9 hgr9 hnew9;obtain⟨A9,k9,rfl⟩:=Qm hown9;have HT9:=Hm ((HT2.o.alloc _).add (p:=⟨m,0,[]⟩) HTG.o rfl hown9 hbel9 hgr9);clear hown9 hbel9 hgr9 hnew9)
         have HT10:=Hm (HT9.o.tkx HTG.o HTK.o);refine (QX (m:=m) HT9.o.bx rfl HAX.o hm1).mono ?_;rintro e w10 ⟨rfl,rfl⟩;go_wp2_with fail;refine (QX (m:=m) HT10.o.by_ rfl HAY.o hm1).mono ?_;rintro e w10 ⟨rfl,rfl⟩;go_wp2_with fail;obtain⟨g1,g2⟩:=HRR.o.step (i:=m) (j:=m) (HT10.o.tky HTG.o HTL.o) (Yj HRR.o.arg (PT.arg_keep (by omega))) HE.o HBAL.o HMX.o HMY.o (by omega) (by simp) HP1.o HP2.o HM1.o HM2.o
         go_roundg ((tape lx ax).length-m+((tape ly ay).length-m))
         case measure=>exact g1
         case rel=>exact⟨_,_,_,_,_,_,_,_,_,g2⟩
        ·have HE:=Hm (HQ2.o hqk hpk);go_wp2_with (at_builtin;refine QE QK #[.int .i64 0,.int .i64 (m:Int),.string ⟨#[]⟩] (HT2.o.alloc _).own rfl rfl rfl rfl (by simp) rfl (QP rfl rfl rfl) HL1.o HL2.o (Zh HL3.o) ?_;intro v9 w9 hown9 hbel9 hgr9 hnew9;obtain⟨A9,k9,rfl⟩:=Qm hown9;have HT9:=Hm ((HT2.o.alloc _).add (p:=⟨0,m,[]⟩) HTG.o rfl hown9 hbel9 hgr9);clear hown9 hbel9 hgr9 hnew9)
         have HT10:=Hm (HT9.o.tkx HTG.o HTK.o);refine (QX (m:=m) HT9.o.bx rfl HAX.o hm1).mono ?_;rintro e w10 ⟨rfl,rfl⟩;go_wp2_with fail;refine (QX (m:=m) HT10.o.by_ rfl HAY.o hm1).mono ?_;rintro e w10 ⟨rfl,rfl⟩;go_wp2_with fail;obtain⟨g1,g2⟩:=HRR.o.step (i:=m) (j:=m) (HT10.o.tky HTG.o HTL.o) (Yj HRR.o.arg (PT.arg_drop (by omega))) HE.o HBAL.o HMX.o HMY.o (by omega) (by simp) HP1.o HP2.o HM1.o HM2.o
         go_roundg ((tape lx ax).length-m+((tape ly ay).length-m))
         case measure=>exact g1
         case rel=>exact⟨_,_,_,_,_,_,_,_,_,g2⟩
       ·have HE:=Hm (HQ3.o hqk);have HT9:=Hm (HT2.o.alloc (.cells #[.int .i64 qk,.int .i64 qd,.string ⟨#[]⟩] 117));go_wp2_with fail;have HT10:=Hm (HT9.o.tkx HTG.o HTK.o);refine (QX (m:=m) HT9.o.bx rfl HAX.o hm1).mono ?_;rintro e w10 ⟨rfl,rfl⟩;go_wp2_with fail;refine (QX (m:=m) HT10.o.by_ rfl HAY.o hm1).mono ?_;rintro e w10 ⟨rfl,rfl⟩;go_wp2_with fail;obtain⟨g1,g2⟩:=HRR.o.step (i:=m) (j:=m) (HT10.o.tky HTG.o HTL.o) HRR.o.arg HE.o HBAL.o HMX.o HMY.o (by omega) (by simp) HP1.o HP2.o HM1.o HM2.o
        go_roundg ((tape lx ax).length-m+((tape ly ay).length-m))
        case measure=>exact g1
        case rel=>exact⟨_,_,_,_,_,_,_,_,_,g2⟩
      ·have hs0:s=false:=Bool.eq_false_iff.2 (fun e=>hst (.inl e));have ht0:t=false:=Bool.eq_false_iff.2 (fun e=>hst (.inr e));subst hs0 ht0
       have hnil:tape lx ax=[]∧tape ly ay=[]:=by
        refine⟨?_,?_⟩
        ·rcases HN1.o with ⟨h,_⟩ | ⟨_,_,h⟩
         ·exact absurd h (by decide)
         ·exact h
        ·rcases HN2.o with ⟨h,_⟩ | ⟨_,_,h⟩
         ·exact absurd h (by decide)
         ·exact h
       have HU:Hd (Qi out=U):=⟨by have:=HRR.o.eq;rw[hnil.1,hnil.2,tr] at this;simpa using this⟩
       have HM:Hd (was out≤4000000∧Qd out≤4000000):=⟨by
        obtain⟨_,_,e3⟩:=XH HRR.o.arg;have h1:=HUL.o;have h2:=ZJ HRR.o.arg;rw[HU.o] at e3;omega⟩
       clear hst hnil;go_wp2_with fail;refine (Qcd (Sl.of_own (HT2.o.alloc _).own) HRR.o.arg (by have:=HM.o;omega) (by have:=HM.o;omega) (by omega)).mono ?_;rintro e w9 ⟨⟨⟨v9,rfl,hs9⟩,hb9⟩,hf9⟩;have HS9:=Hm hs9;have HF9:Hd (Frs w.heap.size v9):=⟨(hf9 _ rfl).mono (by have h1:=HB7.o.size;have h2:=HT2.o.only.size;simp only[Waq];omega)⟩;clear hf9;obtain⟨A9,c9,rfl,-⟩:=hs9;have HB9:Hd (Below w.heap.size w w9):=⟨Qa (Qb (HB7.o.trans (HT2.o.only.below HB7.o.size (fun k hk=>by rintro (e | e)<;>omega))) _) hb9⟩;clear hb9;have HFI:Hd (norm out=YR U):=⟨by rw[Qb5 HRR.o.arg,HU.o]⟩;go_wp2_with fail;go_ret2
       exact⟨⟨HB9.o,.slice A9 (norm out).length c9,by rw[HTC.o];rfl,fun _=>by rw[← HFI.o];exact HS9.o,fun h=>absurd HTC.o h⟩,frE HF9.o⟩
     ·have hqb':(qb == [])=false:=by rw[Waf];exact hqb0
      obtain⟨ht,hpa,heq,hbal,hle⟩:=Qf1 (first:=first) (out:=out) HN1.o HN2.o hqb0 (.inr rfl);subst ht;have HPA:=Hm hpa;have HEQ:=Hm heq;have HBAL:=Hm hbal;obtain⟨hqa,hsz,_⟩:=HN2.o.arg_ rfl;obtain⟨_,hk0,hd0⟩:=hqa;dsimp only at hle hsz hk0 hd0;have hql:=Wax.2 hqb0;have HTK:=Hm (HK2.o qb.length (by omega));have hql2:qb.length≤4611686018427387903:=by have:=HRR.o.hgk;omega
      clear heq hbal hsz hpa
      cases s
      all_goals
       go_wp2_with (at_builtin;refine QE QK #[.int .i64 (qb.length:Int),.int .i64 0,.string ⟨#[]⟩] (HT2.o.alloc _).own rfl rfl rfl rfl (by simp) rfl (QP rfl rfl rfl) HL1.o HL2.o (Zh HL3.o) ?_;intro v9 w9 hown9 hbel9 hgr9 hnew9;obtain⟨A9,k9,rfl⟩:=Qm hown9;have HT9:=Hm ((HT2.o.alloc _).add (p:=⟨qb.length,0,[]⟩) HTG.o rfl hown9 hbel9 hgr9);have hpb9:=(HPB.o.alloc _).only (Only.of_grown hgr9) (fun e=>by have:=hown0 _ e.symm;omega);have hqb9:=(Blk.new w8 117 #[.int .i64 qk,.int .i64 qd,.string ⟨qb.toArray⟩]).only (Only.of_grown hgr9) (fun e=>by have:=hown0 _ e.symm;omega);have P0:=hpb9.cell 0;have P1:=hpb9.cell 1;have P2:=hpb9.cell 2;have Q0:=hqb9.cell 0;have Q1:=hqb9.cell 1;have Q2:=hqb9.cell 2;simp only[Wab,Waa,Wae] at P0 P1 P2 Q0 Q1 Q2;clear hown9 hbel9 hgr9 hnew9 hpb9 hqb9)
       refine (QX (m:=qb.length) HT9.o.by_ rfl HAY.o hql2).mono ?_;rintro e w10 ⟨rfl,rfl⟩;go_wp2_with fail;obtain⟨g1,g2⟩:=HRR.o.step (i:=0) (j:=qb.length) (HT9.o.tky HTG.o HTK.o) (Yj HRR.o.arg HPA.o) HEQ.o (HRR.o.bal.trans HBAL.o.symm) (Nat.zero_le _) (by omega) (by omega) (by simp) HP1.o HP2.o HM1.o HM2.o
       go_roundg ((tape lx ax).length-0+((tape ly ay).length-qb.length))
       case measure=>exact g1
       case rel=>exact⟨_,_,_,_,_,_,_,_,_,g2⟩
    ·have hpb':(pb == [])=false:=by rw[Waf];exact hpb0
     by_cases hqb0:qb=[]
     ·subst hqb0
      cases first
      ·skip
       obtain⟨hs,hpa,heq,hbal,hle⟩:=Qci (first:=false) (out:=out) HN1.o HN2.o hpb0 (.inr rfl);subst hs;have HPA:=Hm hpa;have HEQ:=Hm heq;have HBAL:=Hm hbal;have hsz:=(HN1.o.arg_ rfl).2.1;obtain⟨_,hk0,hd0⟩:=hpa;dsimp only at hle hsz hk0 hd0;have hpl:=Wax.2 hpb0;have HTK:=Hm (HK1.o pb.length (by omega));have hpl2:pb.length≤4611686018427387903:=by have:=HRR.o.hgk;omega
       clear heq hbal hsz;go_wp2_with (at_builtin;refine QE QK #[.int .i64 pk,.int .i64 pd,.string ⟨pb.toArray⟩] (HT2.o.alloc _).own rfl rfl rfl rfl (by simp) rfl (QP rfl rfl rfl) HL1.o HL2.o (Zh HL3.o) ?_;intro v9 w9 hown9 hbel9 hgr9 hnew9;obtain⟨A9,k9,rfl⟩:=Qm hown9;have HT9:=Hm ((HT2.o.alloc _).add (p:=⟨pk,pd,pb⟩) HTG.o rfl hown9 hbel9 hgr9);have hpb9:=(HPB.o.alloc _).only (Only.of_grown hgr9) (fun e=>by have:=hown0 _ e.symm;omega);have hqb9:=(Blk.new w8 117 #[.int .i64 qk,.int .i64 qd,.string ⟨#[]⟩]).only (Only.of_grown hgr9) (fun e=>by have:=hown0 _ e.symm;omega);have P0:=hpb9.cell 0;have P1:=hpb9.cell 1;have P2:=hpb9.cell 2;have Q0:=hqb9.cell 0;have Q1:=hqb9.cell 1;have Q2:=hqb9.cell 2;simp only[Wab,Waa,Wae] at P0 P1 P2 Q0 Q1 Q2;clear hown9 hbel9 hgr9 hnew9 hpb9 hqb9)
       refine (QX (m:=pb.length) HT9.o.bx rfl HAX.o hpl2).mono ?_;rintro e w10 ⟨rfl,rfl⟩;go_wp2_with fail;obtain⟨g1,g2⟩:=HRR.o.step (i:=pb.length) (j:=0) (HT9.o.tkx HTG.o HTK.o) (Yj HRR.o.arg HPA.o) HEQ.o (HBAL.o.trans HRR.o.bal) (by omega) (Nat.zero_le _) (by omega) (by simp) HP1.o HP2.o HM1.o HM2.o
       go_roundg ((tape lx ax).length-pb.length+((tape ly ay).length-0))
       case measure=>exact g1
       case rel=>exact⟨_,_,_,_,_,_,_,_,_,g2⟩
      ·skip
       obtain⟨hs,hpa,heq,hbal,hle⟩:=Qci (first:=true) (out:=out) HN1.o HN2.o hpb0 (.inl rfl);subst hs;have HPA:=Hm hpa;have HEQ:=Hm heq;have HBAL:=Hm hbal;have hsz:=(HN1.o.arg_ rfl).2.1;obtain⟨_,hk0,hd0⟩:=hpa;dsimp only at hle hsz hk0 hd0;have hpl:=Wax.2 hpb0;have HTK:=Hm (HK1.o pb.length (by omega));have hpl2:pb.length≤4611686018427387903:=by have:=HRR.o.hgk;omega
       clear heq hbal hsz;go_wp2_with (at_builtin;refine QE QK #[.int .i64 pk,.int .i64 pd,.string ⟨pb.toArray⟩] (HT2.o.alloc _).own rfl rfl rfl rfl (by simp) rfl (QP rfl rfl rfl) HL1.o HL2.o (Zh HL3.o) ?_;intro v9 w9 hown9 hbel9 hgr9 hnew9;obtain⟨A9,k9,rfl⟩:=Qm hown9;have HT9:=Hm ((HT2.o.alloc _).add (p:=⟨pk,pd,pb⟩) HTG.o rfl hown9 hbel9 hgr9);have hpb9:=(HPB.o.alloc _).only (Only.of_grown hgr9) (fun e=>by have:=hown0 _ e.symm;omega);have hqb9:=(Blk.new w8 117 #[.int .i64 qk,.int .i64 qd,.string ⟨#[]⟩]).only (Only.of_grown hgr9) (fun e=>by have:=hown0 _ e.symm;omega);have P0:=hpb9.cell 0;have P1:=hpb9.cell 1;have P2:=hpb9.cell 2;have Q0:=hqb9.cell 0;have Q1:=hqb9.cell 1;have Q2:=hqb9.cell 2;simp only[Wab,Waa,Wae] at P0 P1 P2 Q0 Q1 Q2;clear hown9 hbel9 hgr9 hnew9 hpb9 hqb9)
       refine (QX (m:=pb.length) HT9.o.bx rfl HAX.o hpl2).mono ?_;rintro e w10 ⟨rfl,rfl⟩;go_wp2_with fail;obtain⟨g1,g2⟩:=HRR.o.step (i:=pb.length) (j:=0) (HT9.o.tkx HTG.o HTK.o) (Yj HRR.o.arg HPA.o) HEQ.o (HBAL.o.trans HRR.o.bal) (by omega) (Nat.zero_le _) (by omega) (by simp) HP1.o HP2.o HM1.o HM2.o
       go_roundg ((tape lx ax).length-pb.length+((tape ly ay).length-0))
       case measure=>exact g1
       case rel=>exact⟨_,_,_,_,_,_,_,_,_,g2⟩
     ·have hqb':(qb == [])=false:=by rw[Waf];exact hqb0
      cases first
      ·skip
       obtain⟨ht,hpa,heq,hbal,hle⟩:=Qf1 (first:=false) (out:=out) HN1.o HN2.o hqb0 (.inl rfl);subst ht;have HPA:=Hm hpa;have HEQ:=Hm heq;have HBAL:=Hm hbal;obtain⟨hqa,hsz,_⟩:=HN2.o.arg_ rfl;obtain⟨_,hk0,hd0⟩:=hqa;dsimp only at hle hsz hk0 hd0;have hql:=Wax.2 hqb0;have HTK:=Hm (HK2.o qb.length (by omega));have hql2:qb.length≤4611686018427387903:=by have:=HRR.o.hgk;omega
       clear heq hbal hsz hpa
       cases s
       all_goals
        go_wp2_with (at_builtin;refine QE QK #[.int .i64 (qb.length:Int),.int .i64 0,.string ⟨#[]⟩] (HT2.o.alloc _).own rfl rfl rfl rfl (by simp) rfl (QP rfl rfl rfl) HL1.o HL2.o (Zh HL3.o) ?_;intro v9 w9 hown9 hbel9 hgr9 hnew9;obtain⟨A9,k9,rfl⟩:=Qm hown9;have HT9:=Hm ((HT2.o.alloc _).add (p:=⟨qb.length,0,[]⟩) HTG.o rfl hown9 hbel9 hgr9);have hpb9:=(HPB.o.alloc _).only (Only.of_grown hgr9) (fun e=>by have:=hown0 _ e.symm;omega);have hqb9:=(Blk.new w8 117 #[.int .i64 qk,.int .i64 qd,.string ⟨qb.toArray⟩]).only (Only.of_grown hgr9) (fun e=>by have:=hown0 _ e.symm;omega);have P0:=hpb9.cell 0;have P1:=hpb9.cell 1;have P2:=hpb9.cell 2;have Q0:=hqb9.cell 0;have Q1:=hqb9.cell 1;have Q2:=hqb9.cell 2;simp only[Wab,Waa,Wae] at P0 P1 P2 Q0 Q1 Q2;clear hown9 hbel9 hgr9 hnew9 hpb9 hqb9)
        refine (QX (m:=qb.length) HT9.o.by_ rfl HAY.o hql2).mono ?_;rintro e w10 ⟨rfl,rfl⟩;go_wp2_with fail;obtain⟨g1,g2⟩:=HRR.o.step (i:=0) (j:=qb.length) (HT9.o.tky HTG.o HTK.o) (Yj HRR.o.arg HPA.o) HEQ.o (HRR.o.bal.trans HBAL.o.symm) (Nat.zero_le _) (by omega) (by omega) (by simp) HP1.o HP2.o HM1.o HM2.o
        go_roundg ((tape lx ax).length-0+((tape ly ay).length-qb.length))
        case measure=>exact g1
        case rel=>exact⟨_,_,_,_,_,_,_,_,_,g2⟩
      ·skip
       obtain⟨hs,hpa,heq,hbal,hle⟩:=Qci (first:=true) (out:=out) HN1.o HN2.o hpb0 (.inl rfl);subst hs;have HPA:=Hm hpa;have HEQ:=Hm heq;have HBAL:=Hm hbal;have hsz:=(HN1.o.arg_ rfl).2.1;obtain⟨_,hk0,hd0⟩:=hpa;dsimp only at hle hsz hk0 hd0;have hpl:=Wax.2 hpb0;have HTK:=Hm (HK1.o pb.length (by omega));have hpl2:pb.length≤4611686018427387903:=by have:=HRR.o.hgk;omega
       clear heq hbal hsz;go_wp2_with (at_builtin;refine QE QK #[.int .i64 pk,.int .i64 pd,.string ⟨pb.toArray⟩] (HT2.o.alloc _).own rfl rfl rfl rfl (by simp) rfl (QP rfl rfl rfl) HL1.o HL2.o (Zh HL3.o) ?_;intro v9 w9 hown9 hbel9 hgr9 hnew9;obtain⟨A9,k9,rfl⟩:=Qm hown9;have HT9:=Hm ((HT2.o.alloc _).add (p:=⟨pk,pd,pb⟩) HTG.o rfl hown9 hbel9 hgr9);have hpb9:=(HPB.o.alloc _).only (Only.of_grown hgr9) (fun e=>by have:=hown0 _ e.symm;omega);have hqb9:=(Blk.new w8 117 #[.int .i64 qk,.int .i64 qd,.string ⟨qb.toArray⟩]).only (Only.of_grown hgr9) (fun e=>by have:=hown0 _ e.symm;omega);have P0:=hpb9.cell 0;have P1:=hpb9.cell 1;have P2:=hpb9.cell 2;have Q0:=hqb9.cell 0;have Q1:=hqb9.cell 1;have Q2:=hqb9.cell 2;simp only[Wab,Waa,Wae] at P0 P1 P2 Q0 Q1 Q2;clear hown9 hbel9 hgr9 hnew9 hpb9 hqb9)
       refine (QX (m:=pb.length) HT9.o.bx rfl HAX.o hpl2).mono ?_;rintro e w10 ⟨rfl,rfl⟩;go_wp2_with fail;obtain⟨g1,g2⟩:=HRR.o.step (i:=pb.length) (j:=0) (HT9.o.tkx HTG.o HTK.o) (Yj HRR.o.arg HPA.o) HEQ.o (HBAL.o.trans HRR.o.bal) (by omega) (Nat.zero_le _) (by omega) (by simp) HP1.o HP2.o HM1.o HM2.o
       go_roundg ((tape lx ax).length-pb.length+((tape ly ay).length-0))
       case measure=>exact g1
       case rel=>exact⟨_,_,_,_,_,_,_,_,_,g2⟩
  ·have HTC:Hd (trc la lb=2):=⟨by unfold trc;rw[if_pos H0.o,if_neg hw]⟩;have hw':(was lb == was la)=false:=by rw[Waf];exact fun e=>hw e.symm
   clear hw;go_wp2_with fail;go_ret2
   exact⟨⟨HB3.o,.slice none 0 0,by rw[HTC.o];rfl,fun h=>by rw[HTC.o] at h;exact absurd h (by decide),fun _=>rfl⟩,frE (Frs.nil _)⟩
 ·have HTC:Hd (trc la lb=Zf la lb):=⟨by unfold trc;rw[if_neg h0]⟩;rw[Yq h0];have H0:=Hm h0;clear h0;generalize Zf la lb=z at *;go_wp2_with fail;go_ret2
  exact⟨⟨HB1.o,.slice none 0 0,by rw[HTC.o,Yq H0.o]<;>rfl,fun h=>by rw[HTC.o] at h;exact absurd h H0.o,fun _=>rfl⟩,frE (Frs.nil _)⟩
end
end
section
open Go.RowKit
def PT.ext (p:PT):Nat:=p.keep.toNat+p.drop.toNat
def Q6:List PT→Nat
 | []=>0
 | p :: l=>p.ext+Q6 l
theorem Qdq (a b:List PT):Q6 (a++b)=Q6 a+Q6 b:=by
 induction a with
 | nil=>simp[Q6]
 | cons p a ih=>rw[Wap,Q6,Q6,ih];omega
theorem Qt1 {l:List PT}(h:∀ p∈l,p.arg):(Q6 l:Int)=was l:=by
 induction l with
 | nil=>rfl
 | cons p l ih =>
  obtain⟨_,h2,h3⟩:=h p (by simp)
  have:=ih (fun q hq=>h q (by simp[hq]))
  rw[Q6,was,PT.ext];omega
def Zc (s:U.Bs):Nat→List PT→U.Bs
 | _,[]=>[]
 | a,p :: l=>(s.drop a).take p.keep.toNat++p.put++Zc s (a+p.ext) l
def aok (s:U.Bs):Nat→List PT→Bool
 | _,[]=>true
 | a,p :: l=>(edg s a && edg s (a+p.ext)) && aok s (a+p.ext) l
theorem Qt2 (s:U.Bs)(a:Nat)(l:List PT)(p:PT):Zc s a (l++[p])=Zc s a l++((s.drop (a+Q6 l)).take p.keep.toNat++p.put):=by
 induction l generalizing a with
 | nil=>simp[Zc,Q6]
 | cons q l ih =>
  rw[Wap,Zc,Zc,ih,Q6,Nat.add_assoc];simp only[Wah]
theorem Qir (s:U.Bs)(a:Nat)(l:List PT)(p:PT):aok s a (l++[p])=(aok s a l && (edg s (a+Q6 l) && edg s (a+Q6 l+p.ext))):=by
 induction l generalizing a with
 | nil=>simp[aok,Q6]
 | cons q l ih=>rw[Wap,aok,aok,ih,Q6,← Nat.add_assoc];simp only[Bool.and_assoc]
theorem Qt3 {s:U.Bs}{a:Nat}{l:List PT}(h:aok s a l=true)(k:Nat):aok s a (l.take k)=true:=by
 induction l generalizing a k with
 | nil=>simp[aok]
 | cons q l ih =>
  rw[aok,Bool.and_eq_true] at h
  cases k with
  | zero=>simp[aok]
  | succ k=>rw[List.take_succ_cons,aok,h.1,ih h.2];rfl
theorem Qt4 {s:U.Bs}{l:List PT}{k:Nat}(hk:k<l.length)(h:(edg s (Q6 (l.take k)) && edg s (Q6 (l.take k)+l[k].ext))=false):aok s 0 l=false:=by
 by_cases e:aok s 0 l=true
 ·have:=Qt3 e (k+1)
  rw[Wag hk,Qir,Nat.zero_add,h,Bool.and_false] at this;exact absurd this (by decide)
 ·simpa using e
theorem Qt5 (s:U.Bs)(a:Nat)(l:List PT):(Zc s a l).length≤Q6 l+Qd l:=by
 induction l generalizing a with
 | nil=>simp[Zc]
 | cons p l ih =>
  have:=ih (a+p.ext)
  rw[Zc,Q6,Qd,Wad,Wad,Wbb];unfold PT.ext at *;omega
noncomputable def apc (l:List PT)(s:U.Bs):Int:=if chk l s.length=0 then (if aok s 0 l=true then 0 else 10) else chk l s.length
noncomputable def apr (l:List PT)(s:U.Bs):U.Bs:=if apc l s=0 then Zc s 0 l else []
theorem Qt6 {l:List PT}{n:Int}(h:e2 n l=0):was l=n:=by
 induction l generalizing n with
 | nil =>
  rw[e2] at h
  by_cases h0:n=0
  ·rw[was,h0]
  ·rw[if_neg h0] at h;exact absurd h (by decide)
 | cons p l ih =>
  rw[e2] at h
  by_cases hc:n<p.keep∨n<p.drop
  ·rw[if_pos hc] at h;exact absurd h (by decide)
  ·rw[if_neg hc] at h
   have:=ih h
   rw[was];omega
theorem Qis {l:List PT}{n:Int}(h:chk l n=0):was l=n:=by
 unfold chk at h
 split at h
 ·exact Qt6 h
 ·rename_i h1;exact absurd h h1
theorem Qit {l:List PT}{n:Nat}(h:chk l n=0):(∀ p∈l,p.Good)∧Q6 l=n:=by
 have hg:=Qak h;refine⟨hg,?_⟩;have ha:∀ p∈l,p.arg:=fun p hp=>(hg p hp).1
 have:=Qt1 ha
 have:=Qis h
 omega
end
section
structure NRs (s:NS)(A:List (RU Int))(c:Nat)(S:List Int):Prop where
 ex:∃ X0 R0 ps ds,S=R0++ds∧A=X0++ps.map .p∧c=ds.length∧s.put=U.encs ps∧U.AllR ps∧s.drop=bl ds∧OpR s.out X0 R0
 last:s.out=[]∨∃ i k,0<k∧s.out=i++[⟨k,0,[]⟩]
theorem Qlk {i:List PT}{k0:Int}{X:List (RU Int)}{R rs:List Int}(hk:0<k0)(_hr:rs≠[])(h:OpR (i++[⟨k0,0,[]⟩]) X R):OpR (i++[⟨k0+bl rs,0,[]⟩]) (X++List.replicate rs.length .k) (R++rs):=by
 induction i generalizing X R with
 | nil =>
  rw[Wbn] at h ⊢;generalize hl:[(⟨k0,0,[]⟩:PT)]=l at h
  cases h with
  | nil=>simp at hl
  | put h1 h2 h3 =>
   simp only[List.cons.injEq,PT.mk.injEq] at hl;omega
  | @keep qs l X R h1 h3 =>
   simp only[List.cons.injEq,PT.mk.injEq] at hl;obtain⟨⟨e,-⟩,rfl⟩:=hl
   cases h3
   have hn:qs++rs≠[]:=by simp[h1]
   have:=OpR.keep hn OpR.nil
   rw[Wam,Wam] at this;rw[Wam,Wam,List.replicate_append_replicate,← Wad];rw[bl_append] at this;rw[e,show ((bl qs:Int)+(bl rs:Int))=((bl qs+bl rs:Nat):Int) by omega];exact this
  | drop h1 h3 =>
   simp only[List.cons.injEq,PT.mk.injEq] at hl;omega
 | cons p i ih =>
  rw[Wap] at h ⊢;generalize hl:p :: (i++[(⟨k0,0,[]⟩:PT)])=l at h
  cases h with
  | nil=>simp at hl
  | put h1 h2 h3 =>
   simp only[List.cons.injEq] at hl;obtain⟨rfl,rfl⟩:=hl;rw[Wah];exact .put h1 h2 (ih h3)
  | keep h1 h3 =>
   simp only[List.cons.injEq] at hl;obtain⟨rfl,rfl⟩:=hl;rw[Wah,Wah];exact .keep h1 (ih h3)
  | drop h1 h3 =>
   simp only[List.cons.injEq] at hl;obtain⟨rfl,rfl⟩:=hl;rw[Wah,Wah];exact .drop h1 (ih h3)
theorem Qll {ps ds:List Int}(h:U.AllR ps):OpR (Qy (U.encs ps) (bl ds)) (ps.map .p++List.replicate ds.length .d) ds:=by
 unfold Qy
 have h2:OpR (if (0:Int)<(bl ds:Int) then [⟨0,(bl ds:Int),[]⟩] else []) (List.replicate ds.length .d) ds:=by
  by_cases hd:ds=[]
  ·subst hd;rw[if_neg (by simp)];exact .nil
  ·have:=ZQ hd
   rw[if_pos (by omega)]
   have:=OpR.drop hd OpR.nil
   rwa [Wam,Wam] at this
 by_cases hp:ps=[]
 ·subst hp;rw[if_pos U.encs_nil];exact h2
 ·rw[if_neg (ZZ hp)];exact .put hp h h2
theorem NRs.all_ {s:NS}{A:List (RU Int)}{c:Nat}{S:List Int}(h:NRs s A c S):OpR s.all (A++List.replicate c .d) S:=by
 obtain⟨X0,R0,ps,ds,rfl,rfl,rfl,h1,h2,h3,h4⟩:=h.ex;unfold NS.all;rw[h1,h3,Wah];exact h4.append (Qll h2)
theorem NRs.zero:NRs .zero [] 0 []:=⟨⟨[],[],[],[],rfl,rfl,rfl,rfl,fun r hr=>by simp at hr,rfl,.nil⟩,.inl rfl⟩
theorem NRs.put_ {s:NS}{A:List (RU Int)}{c:Nat}{S:List Int}(h:NRs s A c S){r:Int}(hr:U.right r=true):NRs ⟨s.out,s.put++U.enc r,s.drop⟩ (A++[.p r]) c S:=by
 obtain⟨⟨X0,R0,ps,ds,e1,rfl,e3,h1,h2,h3,h4⟩,hl⟩:=h;refine⟨⟨X0,R0,ps++[r],ds,e1,by simp,e3,?_,?_,h3,h4⟩,hl⟩
 ·dsimp only;rw[h1,U.encs_append,U.encs_cons,U.encs_nil,Wam]
 ·intro x hx;rcases List.mem_append.1 hx with hx | hx
  ·exact h2 x hx
  ·obtain rfl:=Wbd.1 hx;exact hr
theorem NRs.drop_ {s:NS}{A:List (RU Int)}{c:Nat}{S:List Int}(h:NRs s A c S)(q:Int):NRs ⟨s.out,s.put,s.drop+(U.wid q:Nat)⟩ A (c+1) (S++[q]):=by
 obtain⟨⟨X0,R0,ps,ds,e1,rfl,e3,h1,h2,h3,h4⟩,hl⟩:=h;refine⟨⟨X0,R0,ps,ds++[q],by rw[e1,Wah],rfl,by simp[e3],h1,h2,?_,h4⟩,hl⟩;dsimp only;rw[h3,bl_append,Z9,bl_nil];omega
theorem NRs.keep_ {s:NS}{A:List (RU Int)}{c:Nat}{S:List Int}(h:NRs s A c S)(q:Int):NRs (s.kept ⟨(U.wid q:Nat),0,[]⟩) (A++List.replicate c .d++[.k]) 0 (S++[q]):=by
 have hw:=U.wid_pos q;have hq:bl [q]=U.wid q:=by rw[Z9,bl_nil];omega
 unfold NS.kept
 split
 ·rename_i hc
  refine⟨⟨A++List.replicate c .d++[.k],S++[q],[],[],by simp,by simp,rfl,rfl,fun r hr=>by simp at hr,rfl,?_⟩,.inr ⟨s.all,(U.wid q:Nat),by omega,rfl⟩⟩;refine h.all_.append ?_
  have:=OpR.keep (rs:=[q]) (by simp) OpR.nil
  rw[hq] at this;exact this
 ·rename_i hc
  obtain⟨⟨X0,R0,ps,ds,rfl,rfl,rfl,h1,h2,h3,h4⟩,hl⟩:=h
  have e1:ps=[]:=by
   by_cases e:ps=[]
   ·exact e
   ·exact absurd (.inl (by rw[h1];exact ZZ e)) hc
  have e2:ds=[]:=by
   by_cases e:ds=[]
   ·exact e
   ·exact absurd (.inr (.inl (by rw[h3];have:=ZQ e;omega))) hc
  subst e1 e2;rcases hl with hl | ⟨i,k,hk,hl⟩
  ·exact absurd (.inr (.inr hl)) hc
  ·rw[hl,Xn];rw[hl] at h4
   have:=Qlk (rs:=[q]) hk (by simp) h4
   rw[hq] at this;refine⟨⟨X0++[.k],R0++[q],[],[],by simp,by simp,rfl,rfl,fun r hr=>by simp at hr,rfl,this⟩,.inr ⟨i,k+(U.wid q:Nat),by omega,rfl⟩⟩
def Xj (X:List (RU Int)):Prop:=∀ r,.p r∈X→U.right r=true
theorem Qlm {X:List (RU Int)}{R:List Int}(hx:Qc X=R.length)(hp:Xj X){s:NS}{A:List (RU Int)}{c:Nat}{S:List Int}(h:NRs s A c S):OpR (Qq s (Qf X R)).all (A++rnm c X) (S++R):=by
 induction X generalizing R s A c S with
 | nil =>
  obtain rfl:R=[]:=List.length_eq_zero_iff.1 hx.symm;rw[Qf]
  ·rw[Qcv,Wam];exact h.all_
  all_goals simp
 | cons x X ih =>
  have hp':Xj X:=fun r hr=>hp r (List.mem_cons_of_mem _ hr)
  cases x with
  | p r =>
   rw[Qf,XB,Qgr,rnm]
   have:=ih hx hp' (h.put_ (hp r (by simp)))
   rwa [Wah] at this
  | k =>
   cases R with
   | nil=>simp[Qc] at hx
   | cons q R =>
    obtain⟨n,hn⟩:=Qbv q;rw[Qf,XB,hn,Qgu,rnm];have h2:=h.keep_ q;rw[hn] at h2
    have:=ih (by simpa [Qc] using hx) hp' h2
    rw[show ((n+1:Nat):Int)=(n:Int)+1 by omega] at this;simpa [Wah] using this
  | d =>
   cases R with
   | nil=>simp[Qc] at hx
   | cons q R =>
    rw[Qf,XB,Qgs,rnm]
    have:=ih (by simpa [Qc] using hx) hp' (h.drop_ q)
    simpa [Wah] using this
theorem Qb1 {X:List (RU Int)}{R:List Int}(hx:Qc X=R.length)(hp:Xj X):OpR (YR (Qf X R)) (rnm 0 X) R:=Qlm hx hp NRs.zero
theorem OpR.allP {l:List PT}{X:List (RU Int)}{R:List Int}(h:OpR l X R):Xj X:=by
 induction h with
 | nil=>intro r hr;simp at hr
 | put h1 h2 _ ih =>
  intro r hr;rcases List.mem_append.1 hr with hr | hr
  ·obtain⟨a,ha,e⟩:=List.mem_map.1 hr
   cases e
   exact h2 _ ha
  ·exact ih r hr
 | keep h1 _ ih =>
  intro r hr;rcases List.mem_append.1 hr with hr | hr
  ·have:=List.eq_of_mem_replicate hr;cases this
  ·exact ih r hr
 | drop h1 _ ih =>
  intro r hr;rcases List.mem_append.1 hr with hr | hr
  ·have:=List.eq_of_mem_replicate hr;cases this
  ·exact ih r hr
theorem OpR.norm_ {l:List PT}{X:List (RU Int)}{R:List Int}(h:OpR l X R):OpR (norm l) (rnm 0 X) R:=by
 rw[Qb5 (fun p hp=>(h.arg p hp).1),h.expand_];exact Qb1 h.was_ h.allP
theorem Qex {l:List PT}(h:∀ p∈l,p.arg){n:Int}(hn:was l=n):e2 n l=0:=by
 induction l generalizing n with
 | nil=>rw[e2,if_pos (by rw[← hn];rfl)]
 | cons p l ih =>
  have hp:=(h p (by simp)).2;have hl:0≤was l:=ZJ (fun q hq=>h q (by simp[hq]));rw[was] at hn;rw[e2,if_neg (by omega)];exact ih (fun q hq=>h q (by simp[hq])) (by omega)
theorem OpR.chk_ {l:List PT}{X:List (RU Int)}{R:List Int}(h:OpR l X R):chk l (bl R)=0:=by
 unfold chk;rw[Qdi h.arg,if_pos rfl];exact Qex (fun p hp=>(h.arg p hp).1) h.sizes.1
theorem Qey (s:U.Bs)(a:Nat):edg s a=Yv s a:=by
 unfold edg Yv U.at_
 rfl
theorem Jj {P Q:List Int}(h:U.AllR (P++Q)):edg (U.encs (P++Q)) (bl P)=true:=by
 rw[Qey,Qaw h (by simp)]
 exact⟨P,Q,rfl,rfl⟩
theorem Qln (P rs R:List Int):((U.encs (P++(rs++R))).drop (bl P)).take (bl rs)=U.encs rs:=by
 rw[U.encs_append,U.encs_append];unfold bl;rw[List.drop_left,List.take_left]
theorem OpR.runs {l:List PT}{X:List (RU Int)}{R:List Int}(h:OpR l X R)(P:List Int)(hP:U.AllR (P++R)) :
  aok (U.encs (P++R)) (bl P) l=true∧Zc (U.encs (P++R)) (bl P) l=U.encs (rap X R):=by
 induction h generalizing P with
 | nil=>exact⟨rfl,rfl⟩
 | @put rs l X R h1 h2 _ ih =>
  obtain⟨i1,i2⟩:=ih P hP;have e:=Jj hP
  have er:rap (rs.map .p++X) R=rs++rap X R:=by
   clear h1 h2 ih i1 i2
   induction rs with
   | nil=>rfl
   | cons r rs ih2=>simp only[List.map_cons,Wap,rap,ih2]
  have hx:(⟨0,0,U.encs rs⟩:PT).ext=0:=rfl;rw[aok,Zc,hx,Nat.add_zero,e,i1,i2,er,U.encs_append rs (rap X R)];simp
 | @keep rs l X R h1 _ ih =>
  have hP2:U.AllR ((P++rs)++R):=by rwa [Wah]
  obtain⟨i1,i2⟩:=ih (P++rs) hP2;have e:=Jj hP;have e2:=Jj hP2
  have er:rap (List.replicate rs.length .k++X) (rs++R)=rs++rap X R:=by
   clear h1 ih i1 i2 hP hP2 e e2
   induction rs with
   | nil=>rfl
   | cons r rs ih2=>simp only[Wan,Wat,Wap,rap,ih2]
  have hx:(⟨(bl rs:Int),0,[]⟩:PT).ext=bl rs:=by simp[PT.ext]
  rw[Wah] at i1 i2 e2;rw[bl_append] at i1 i2 e2;rw[aok,Zc,hx,e,e2,i1,i2,er,U.encs_append rs (rap X R)];simp[Qln]
 | @drop rs l X R h1 _ ih =>
  have hP2:U.AllR ((P++rs)++R):=by rwa [Wah]
  obtain⟨i1,i2⟩:=ih (P++rs) hP2;have e:=Jj hP;have e2:=Jj hP2
  have er:rap (List.replicate rs.length .d++X) (rs++R)=rap X R:=by
   clear h1 ih i1 i2 hP hP2 e e2
   induction rs with
   | nil=>rfl
   | cons r rs ih2=>simp only[Wan,Wat,Wap,rap,ih2]
  have hx:(⟨0,(bl rs:Int),[]⟩:PT).ext=bl rs:=by simp[PT.ext]
  rw[Wah] at i1 i2 e2;rw[bl_append] at i1 i2 e2;rw[aok,Zc,hx,e,e2,i1,i2,er];simp
theorem OpR.apply {l:List PT}{X:List (RU Int)}{R:List Int}(h:OpR l X R)(hR:U.AllR R):apc l (U.encs R)=0∧apr l (U.encs R)=U.encs (rap X R):=by
 obtain⟨h1,h2⟩:=h.runs [] hR;have hc:=h.chk_
 have h0:apc l (U.encs R)=0:=by
  unfold apc;rw[show ((U.encs R).length:Int)=(bl R:Int) from rfl,hc,if_pos rfl];exact if_pos h1
 refine⟨h0,?_⟩;unfold apr;rw[if_pos h0];exact h2
theorem QW {X:List (RU Int)}{R:List Int}(hp:Xj X)(hR:U.AllR R):U.AllR (rap X R):=by
 induction X generalizing R with
 | nil=>intro r hr;simp[rap] at hr
 | cons x X ih =>
  have hp':Xj X:=fun r hr=>hp r (List.mem_cons_of_mem _ hr)
  cases x with
  | p r =>
   intro q hq;rw[rap] at hq;rcases Wbk.1 hq with rfl | hq
   ·exact hp _ (by simp)
   ·exact ih hp' hR q hq
  | k=>cases R with
   | nil=>intro q hq;simp[rap] at hq
   | cons s R =>
    intro q hq;rw[rap] at hq;rcases Wbk.1 hq with rfl | hq
    ·exact hR _ (by simp)
    ·exact ih hp' (fun x hx=>hR x (by simp[hx])) q hq
  | d=>cases R with
   | nil=>intro q hq;simp[rap] at hq
   | cons s R=>rw[rap];exact ih hp' (fun x hx=>hR x (by simp[hx]))
theorem Qlo {first:Bool}{X Y:List (RU Int)}{r:Int}(h:.p r∈rtr first X Y):.p r∈X:=by
 generalize hm:X.length+Y.length=m
 induction m using Nat.strongRecOn generalizing X Y with
 | _ m ih =>
  have step:∀ (X' Y':List (RU Int)),X'.length+Y'.length<m→.p r∈rtr first X' Y'→.p r∈X':=fun X' Y' h1 h2=>ih _ h1 h2 rfl
  clear ih
  match X,Y with
  | [],[]=>simp[rtr] at h
  | .p s :: X,[]=>have:=step X [] (by simp at hm ⊢;omega);rw[rtr] at h<;>simp_all<;>(rcases h with h | h<;>simp_all)
  | [],.p s :: Y=>have:=step [] Y (by simp at hm ⊢;omega);simp_all [rtr]
  | .k :: X,[]=>simp[rtr] at h
  | .d :: X,[]=>simp[rtr] at h
  | [],.k :: X=>simp[rtr] at h
  | [],.d :: X=>simp[rtr] at h
  | .p s :: X,.p q :: Y =>
   cases first with
   | true=>have:=step X (.p q :: Y) (by simp at hm ⊢;omega);rw[rtr] at h<;>simp_all<;>(rcases h with h | h<;>simp_all)
   | false=>have:=step (.p s :: X) Y (by simp at hm ⊢;omega);simp_all [rtr]
  | .p s :: X,.k :: Y=>have:=step X (.k :: Y) (by simp at hm ⊢;omega);rw[rtr] at h<;>simp_all<;>(rcases h with h | h<;>simp_all)
  | .p s :: X,.d :: Y=>have:=step X (.d :: Y) (by simp at hm ⊢;omega);rw[rtr] at h<;>simp_all<;>(rcases h with h | h<;>simp_all)
  | .k :: X,.p s :: Y=>have:=step (.k :: X) Y (by simp at hm ⊢;omega);simp_all [rtr]
  | .d :: X,.p s :: Y=>have:=step (.d :: X) Y (by simp at hm ⊢;omega);simp_all [rtr]
  | .k :: X,.k :: Y=>have:=step X Y (by simp at hm ⊢;omega);simp_all [rtr]
  | .k :: X,.d :: Y=>have:=step X Y (by simp at hm ⊢;omega);simp_all [rtr]
  | .d :: X,.k :: Y=>have:=step X Y (by simp at hm ⊢;omega);simp_all [rtr]
  | .d :: X,.d :: Y=>have:=step X Y (by simp at hm ⊢;omega);simp_all [rtr]
end
section
open Go.RowKit
noncomputable def cmc (a b:List PT):Int:=if Zf a b=0 then (if comes a=was b then 0 else 2) else Zf a b
theorem Qg1 {l:List PT}(ha:∀ p∈l,p.arg):0≤comes l∧comes l≤was l+Qd l:=by
 induction l with
 | nil=>simp[comes,was,Qd]
 | cons p l ih =>
  have h1:=ih (fun q hq=>ha q (by simp[hq]));obtain⟨_,h4,h5⟩:=ha p (by simp);rw[comes,was,Qd];omega
section
attribute [local go_sem] Qz Qje
theorem Qp9 {la lb:List PT}{va vb:Value}{na nb:Nat}{w:World}(hg:Hdl w)(ha:Sl w 3 va na (opv la))(hb:Sl w 3 vb nb (opv lb))(hfa:Mo la na)(hfb:Mo lb nb) :
  Calls prog 211 #[va,vb] w (Qic (cmc la lb) (cm (Qi la) (Qi lb)) w):=by
 have hla:la.length=na:=by have:=ha.len;rw[Zw] at this;omega
 have hlb:lb.length=nb:=by have:=hb.len;rw[Zw] at this;omega
 have HG:=Hm hg;have HA:=Hm ha;have HB:=Hm hb;have hna:=hfa.len;have hnb:=hfb.len;have HFA:=Hm hfa;have HFB:=Hm hfb;obtain⟨A1,c1,rfl,-⟩:=ha;obtain⟨A2,c2,rfl,-⟩:=hb;clear hg hfa hfb;go_enter func211,ntmps211
 go_wp2_with fail;refine (Qhc HG.o HA.o HB.o HFA.o.put HFB.o.put).mono ?_;rintro e w1 ⟨rfl,hb1⟩;have HB1:=Hm hb1;clear hb1
 by_cases h0:Zf la lb=0
 ·obtain⟨ga,gb⟩:=Qid h0;have harga:∀ p∈la,p.arg:=fun p hp=>(ga p hp).1
  have hargb:∀ p∈lb,p.arg:=fun p hp=>(gb p hp).1
  obtain⟨f1,f2,f3⟩:=HFA.o.bd harga;obtain⟨f4,f5,f6⟩:=HFB.o.bd hargb;have f7:=Qg1 harga;have ea:=YK (a:=comes la) f7.1 (by omega);have eb:=YK f6 (by omega);have HEA:=Hm ea;have HEB:=Hm eb;have HARA:=Hm harga;have HARB:=Hm hargb;have HWA:Hd (was la≤1000000∧Qd la≤900000∧0≤was la):=⟨by omega,by omega,f3⟩;have HWB:Hd (was lb≤1000000∧Qd lb≤900000∧0≤was lb):=⟨by omega,by omega,f6⟩;rw[h0,YC];have H0:=Hm h0;clear h0 ga gb harga hargb f1 f2 f3 f4 f5 f6 f7 ea eb;go_wp2_with fail;refine (Xm (HA.o.below HB1.o)).mono ?_;rintro e w2 ⟨he,hb2⟩;rw[HEA.o] at he;subst he;have HB2:=Hm (Qa HB1.o hb2);clear hb2;go_wp2_with fail;refine (Xm (HB.o.below HB2.o)).mono ?_;rintro e w3 ⟨he,hb3⟩;rw[HEB.o] at he;subst he;have HB3:=Hm (Qa HB2.o hb3);clear hb3
  by_cases hw:comes la=was lb
  ·have HTC:Hd (cmc la lb=0):=⟨by unfold cmc;rw[if_pos H0.o,if_pos hw]⟩;have HW:=Hm hw;have hw':(was lb == was lb)=true:=beq_self_eq_true _;rw[hw];clear hw;have hx5:Below w3.heap.size w3 ((w3.alloc (.cells #[.slice A1 na c1,.int .i64 0] 388)).alloc (.cells #[.slice A2 nb c2,.int .i64 0] 388)):=Qb (Qb (Wac _ _) _) _;have hbx:Blk ((w3.alloc (.cells #[.slice A1 na c1,.int .i64 0] 388)).alloc (.cells #[.slice A2 nb c2,.int .i64 0] 388)) w3.heap.size 388 #[.slice A1 na c1,.int .i64 0]:=(Blk.new _ _ _).alloc _
   have hby:Blk ((w3.alloc (.cells #[.slice A1 na c1,.int .i64 0] 388)).alloc (.cells #[.slice A2 nb c2,.int .i64 0] 388)) (w3.heap.size+1) 388 #[.slice A2 nb c2,.int .i64 0]:=by
    have:=Blk.new (w3.alloc (.cells #[.slice A1 na c1,.int .i64 0] 388)) 388 #[.slice A2 nb c2,.int .i64 0]
    rwa [Waq] at this
   have HTI:Hd (TI ((w3.alloc (.cells #[.slice A1 na c1,.int .i64 0] 388)).alloc (.cells #[.slice A2 nb c2,.int .i64 0] 388)) ((w3.alloc (.cells #[.slice A1 na c1,.int .i64 0] 388)).alloc (.cells #[.slice A2 nb c2,.int .i64 0] 388)) w3.heap.size (w3.heap.size+1) (.slice A1 na c1) na la 0 (.slice A2 nb c2) nb lb 0 (.slice none 0 0) []) :=
    ⟨hbx,hby,(HA.o.below HB3.o).below hx5,(HB.o.below HB3.o).below hx5,Qa1 HARA.o,Qa1 HARB.o,World.ownsRow_nil _ _ _ _,Only.refl _ _⟩
   have HTG:Hd (TG ((w3.alloc (.cells #[.slice A1 na c1,.int .i64 0] 388)).alloc (.cells #[.slice A2 nb c2,.int .i64 0] 388)) w3.heap.size (w3.heap.size+1)):=⟨⟨⟨_,_,hbx⟩,⟨_,_,hby⟩,by omega⟩⟩;have HB7:Hd (Below w.heap.size w ((w3.alloc (.cells #[.slice A1 na c1,.int .i64 0] 388)).alloc (.cells #[.slice A2 nb c2,.int .i64 0] 388))):=⟨Qa HB3.o hx5⟩;clear hx5 hbx hby;obtain⟨em1,em2,em3⟩:=XH HARA.o;obtain⟨em4,em5,em6⟩:=XH HARB.o
   have HTR:Hd (∃ T,T≤4000000∧TRr (cm (Qi la) (Qi lb)) T cm QH Qw la lb ((w3.alloc (.cells #[.slice A1 na c1,.int .i64 0] 388)).alloc (.cells #[.slice A2 nb c2,.int .i64 0] 388)) ((w3.alloc (.cells #[.slice A1 na c1,.int .i64 0] 388)).alloc (.cells #[.slice A2 nb c2,.int .i64 0] 388)) w3.heap.size (w3.heap.size+1) T (.slice A1 na c1) na la 0 (.slice A2 nb c2) nb lb 0 (.slice none 0 0) []):=⟨by
    have h1:=HWA.o;have h2:=HWB.o;have h3:=HW.o;refine⟨(Qi la).length+(Qi lb).length,by omega,HTI.o,fun p hp=>by simp at hp,by simp[tape,expand_nil],?_,by simp[tape],by simp,fun q hq=>hq,fun q hq=>hq⟩;simp only[tape,List.drop_zero];omega⟩
   have HTX:Hd (Tbd la):=⟨JS HARA.o (by have:=HWA.o;omega) (by have:=HWA.o;omega)⟩;have HTY:Hd (Tbd lb):=⟨JS HARB.o (by have:=HWB.o;omega) (by have:=HWB.o;omega)⟩;have HUL:Hd ((cm (Qi la) (Qi lb)).length≤4000000):=⟨by have:=Ql0 (Qi la) (Qi lb);have h1:=HWA.o;have h2:=HWB.o;omega⟩;clear em1 em2 em3 em4 em5 em6;generalize cm (Qi la) (Qi lb)=U at *;obtain⟨T,hT,htr⟩:=HTR.o;have HTR0:=Hm htr;have HW0:=Hm hT;clear htr HTR HTI;go_wp2_with fail;generalize ((w3.alloc (.cells #[.slice A1 na c1,.int .i64 0] 388)).alloc (.cells #[.slice A2 nb c2,.int .i64 0] 388))=W0 at *;clear hw'
   go_loopg [11] T (fun gk so wr=>∃ vx nx lx ax vy ny ly ay out,TRr U T cm QH Qw la lb W0 wr w3.heap.size (w3.heap.size+1) gk vx nx lx ax vy ny ly ay so out)
   case atStart=>exact⟨_,_,_,_,_,_,_,_,_,HTR0.o⟩
   case round =>
    obtain⟨vx,nx,lx,ax,vy,ny,ly,ay,out,hrr⟩:=hrel;have HRR:=Hm hrr;obtain⟨Ao,co,rfl⟩:=Qm hrr.ti.own;clear hrr;go_wp2_with fail;refine (JK (HRR.o.ti.px HTG.o) (Xu HTX.o HRR.o.mx)).mono ?_;rintro e w7 ⟨vx2,nx2,lx2,ax2,⟨pk,pd,pb⟩,s,rfl,ht1,htp1,hnx1,htok1,hmem1,htr1,ho1⟩;have HT1:=Hm (HRR.o.ti.nx_ HTG.o ht1 htr1 ho1);have HP1:=Hm htp1;have HN1:=Hm hnx1;have HK1:=Hm htok1;have HM1:=Hm hmem1;have hz7:=ho1.size;clear ht1 htp1 hnx1 htok1 hmem1 htr1 ho1;dsimp only;go_wp2_with fail;refine (JK ((HT1.o.alloc _).py HTG.o) (Xu HTY.o HRR.o.my)).mono ?_;rintro e w8 ⟨vy2,ny2,ly2,ay2,⟨qk,qd,qb⟩,t,rfl,ht2,htp2,hnx2,htok2,hmem2,htr2,ho2⟩;have HT2:=Hm ((HT1.o.alloc _).ny_ HTG.o ht2 htr2 ho2);have HP2:=Hm htp2;have HN2:=Hm hnx2;have HK2:=Hm htok2;have HM2:=Hm hmem2;have HO2:=Hm ho2;clear ht2 htp2 hnx2 htok2 hmem2 htr2 ho2;dsimp only;have hgx:w.heap.size≤w3.heap.size:=HB3.o.size;have hgl:=HTG.o.ltx;have hgl2:=HTG.o.lty;have hz8:=HO2.o.size;simp only[Waq] at hz8;have hW0r:=HRR.o.ti.only.size;have hown0:∀ k,(Value.slice Ao out.length co).ownBlock=some k→k<wr.heap.size:=fun k hk=>(HRR.o.ti.own.lt k hk).2
    have hlen0:=HRR.o.len;have hT0:=HW0.o;have hpb:=(Blk.new w7 117 #[.int .i64 pk,.int .i64 pd,.string ⟨pb.toArray⟩]).only HO2.o (show ¬ w7.heap.size=w3.heap.size+1 by omega);have HPB:=Hm hpb;have p0:=hpb.cell 0;have p1:=hpb.cell 1;have p2:=hpb.cell 2;simp only[Wab,Waa,Wae] at p0 p1 p2;have hgp:w7.heap.size<w8.heap.size:=by omega
    have HL1:Hd (out.length+1≤maxLen):=⟨by unfold maxLen;omega⟩;have HL2:Hd ((out.length+1)*32≤140737488355328):=⟨by omega⟩;have HL3:Hd (W0.heap.size≤w8.heap.size+1):=⟨by omega⟩;have HAX:=Hm (Qa0 HT2.o.ox (Xu HTX.o (fun q hq=>HRR.o.mx q (HM1.o q hq))));have HAY:=Hm (Qa0 HT2.o.oy (Xu HTY.o (fun q hq=>HRR.o.my q (HM2.o q hq))));clear hpb
    by_cases hst:s=true∨t=true
    ·by_cases hpd:0<pd
     ·obtain⟨m,hm0,hpe,heq,hbal,hle⟩:=Qny (out:=out) HN1.o hpd HRR.o.bal;simp only[PT.mk.injEq] at hpe;obtain⟨rfl,rfl,rfl⟩:=hpe
      have hs1:s=true:=by
       rcases HN1.o with ⟨h,_⟩ | ⟨_,h,_⟩
       ·exact h
       ·cases h;simp at hpd
      subst hs1;have hpa:=(HN1.o.arg_ rfl).1;have hsz:=(HN1.o.arg_ rfl).2.1;dsimp only[List.length_nil] at hsz;have HPA:=Hm hpa;have HEQ:=Hm heq;have HBAL:=Hm hbal;have HTK:=Hm (HK1.o m (by omega));have hm1:m≤4611686018427387903:=by have:=HRR.o.hgk;omega
      have hpd':(0:Int)<m:=by omega
      clear heq hbal hsz hpa hst;go_wp2_with (at_builtin;refine QE QK #[.int .i64 0,.int .i64 (m:Int),.string ⟨#[]⟩] (HT2.o.alloc _).own rfl rfl rfl rfl (by simp) rfl (QP rfl rfl rfl) HL1.o HL2.o (Zh HL3.o) ?_;intro v9 w9 hown9 hbel9 hgr9 hnew9;obtain⟨A9,k9,rfl⟩:=Qm hown9;have HT9:=Hm ((HT2.o.alloc _).add (p:=⟨0,m,[]⟩) HTG.o rfl hown9 hbel9 hgr9);have hpb9:=(HPB.o.alloc _).only (Only.of_grown hgr9) (fun e=>by have:=hown0 _ e.symm;omega);have hqb9:=(Blk.new w8 117 #[.int .i64 qk,.int .i64 qd,.string ⟨qb.toArray⟩]).only (Only.of_grown hgr9) (fun e=>by have:=hown0 _ e.symm;omega);have P0:=hpb9.cell 0;have P1:=hpb9.cell 1;have P2:=hpb9.cell 2;have Q0:=hqb9.cell 0;have Q1:=hqb9.cell 1;have Q2:=hqb9.cell 2;simp only[Wab,Waa,Wae] at P0 P1 P2 Q0 Q1 Q2;clear hown9 hbel9 hgr9 hnew9 hpb9 hqb9)
      refine (QX (m:=m) HT9.o.bx rfl HAX.o hm1).mono ?_;rintro e w10 ⟨rfl,rfl⟩;go_wp2_with fail;obtain⟨g1,g2⟩:=HRR.o.step (i:=m) (j:=0) (HT9.o.tkx HTG.o HTK.o) (Yj HRR.o.arg HPA.o) HEQ.o HBAL.o (by omega) (Nat.zero_le _) (by omega) (by simp) HP1.o HP2.o HM1.o HM2.o
      go_roundg ((tape lx ax).length-m+((tape ly ay).length-0))
      case measure=>exact g1
      case rel=>exact⟨_,_,_,_,_,_,_,_,_,g2⟩
     ·by_cases hqb0:qb=[]
      ·subst hqb0
       by_cases hpb0:pb=[]
       ·subst hpb0;obtain⟨m,hm0,hmin,hmx,hmy,hbal,hq1,hq2⟩:=Qn1 (out:=out) HN1.o HN2.o rfl hpd rfl HRR.o.bal hst
        have hs1:s=true:=by
         rcases HN1.o with ⟨h,_⟩ | ⟨_,h,_⟩
         ·exact h
         ·cases h;simp at hmin;omega
        have ht1:t=true:=by
         rcases HN2.o with ⟨h,_⟩ | ⟨_,h,_⟩
         ·exact h
         ·cases h;simp at hmin;omega
        subst hs1 ht1;obtain⟨hpa,hsz1,hsx⟩:=HN1.o.arg_ rfl;obtain⟨hqa,hsz2,hsy⟩:=HN2.o.arg_ rfl;obtain⟨_,hk0,hd0⟩:=hpa;obtain⟨_,hk1,hd1⟩:=hqa;dsimp only[List.length_nil] at hmin hsz1 hsz2 hk0 hd0 hk1 hd1 hq1 hq2;have hgk:=HRR.o.hgk;have hb1:pk≤4000000:=by omega
        have hb3:qk≤4000000:=by omega
        have hb4:qd≤4000000:=by omega
        have HTK:=Hm (HK1.o m (by omega));have HTL:=Hm (HK2.o m (by omega));have HQ1:=Hm hq1;have HQ2:=Hm hq2;have HBAL:=Hm hbal;have HMIN:=Hm hmin;clear hq1 hq2 hbal hst hmin hsz1 hsz2 hsx hsy;go_upto_region 13 with fail
        have e20:(if qk+qd<pk then qk+qd else pk)=(m:Int):=by have:=HMIN.o;split<;>omega
        have hm1:m≤4611686018427387903:=by omega
        have HMX:=Hm hmx;have HMY:=Hm hmy;(first | rw[e20] | rw[show min pk (qk+qd)=(m:Int) from by have:=HMIN.o;omega]);clear e20
        by_cases hqk:0<qk
        ·have HE:=Hm (HQ1.o hqk);go_wp2_with (at_builtin;refine QE QK #[.int .i64 (m:Int),.int .i64 0,.string ⟨#[]⟩] (HT2.o.alloc _).own rfl rfl rfl rfl (by simp) rfl (QP rfl rfl rfl) HL1.o HL2.o (Zh HL3.o) ?_;intro v9 w9 hown9 hbel9 hgr9 hnew9;obtain⟨A9,k9,rfl⟩:=Qm hown9;have HT9:=Hm ((HT2.o.alloc _).add (p:=⟨m,0,[]⟩) HTG.o rfl hown9 hbel9 hgr9);clear hown9 hbel9 hgr9 hnew9)
         have HT10:=Hm (HT9.o.tkx HTG.o HTK.o);refine (QX (m:=m) HT9.o.bx rfl HAX.o hm1).mono ?_;rintro e w10 ⟨rfl,rfl⟩;go_wp2_with fail;refine (QX (m:=m) HT10.o.by_ rfl HAY.o hm1).mono ?_;rintro e w10 ⟨rfl,rfl⟩;go_wp2_with fail;obtain⟨g1,g2⟩:=HRR.o.step (i:=m) (j:=m) (HT10.o.tky HTG.o HTL.o) (Yj HRR.o.arg (PT.arg_keep (by omega))) HE.o HBAL.o HMX.o HMY.o (by omega) (by simp) HP1.o HP2.o HM1.o HM2.o
         go_roundg ((tape lx ax).length-m+((tape ly ay).length-m))
         case measure=>exact g1
         case rel=>exact⟨_,_,_,_,_,_,_,_,_,g2⟩
        ·have HE:=Hm (HQ2.o hqk);go_wp2_with (at_builtin;refine QE QK #[.int .i64 0,.int .i64 (m:Int),.string ⟨#[]⟩] (HT2.o.alloc _).own rfl rfl rfl rfl (by simp) rfl (QP rfl rfl rfl) HL1.o HL2.o (Zh HL3.o) ?_;intro v9 w9 hown9 hbel9 hgr9 hnew9;obtain⟨A9,k9,rfl⟩:=Qm hown9;have HT9:=Hm ((HT2.o.alloc _).add (p:=⟨0,m,[]⟩) HTG.o rfl hown9 hbel9 hgr9);clear hown9 hbel9 hgr9 hnew9)
         have HT10:=Hm (HT9.o.tkx HTG.o HTK.o);refine (QX (m:=m) HT9.o.bx rfl HAX.o hm1).mono ?_;rintro e w10 ⟨rfl,rfl⟩;go_wp2_with fail;refine (QX (m:=m) HT10.o.by_ rfl HAY.o hm1).mono ?_;rintro e w10 ⟨rfl,rfl⟩;go_wp2_with fail;obtain⟨g1,g2⟩:=HRR.o.step (i:=m) (j:=m) (HT10.o.tky HTG.o HTL.o) (Yj HRR.o.arg (PT.arg_drop (by omega))) HE.o HBAL.o HMX.o HMY.o (by omega) (by simp) HP1.o HP2.o HM1.o HM2.o
         go_roundg ((tape lx ax).length-m+((tape ly ay).length-m))
         case measure=>exact g1
         case rel=>exact⟨_,_,_,_,_,_,_,_,_,g2⟩
       ·have hpb':(pb == [])=false:=by rw[Waf];exact hpb0
        obtain⟨m,hm0,hmin,hmp,hmx,hmy,hbal,hq1,hq2⟩:=Qn0 (out:=out) HN1.o HN2.o hpb0 rfl HRR.o.bal;have hs1:=(HN1.o.isPut_ hpb0).1
        have ht1:t=true:=by
         rcases HN2.o with ⟨h,_⟩ | ⟨_,h,_⟩
         ·exact h
         ·cases h;simp at hmin;omega
        subst hs1 ht1;obtain⟨hpa,hsz1,hsx⟩:=HN1.o.arg_ rfl;obtain⟨hqa,hsz2,hsy⟩:=HN2.o.arg_ rfl;obtain⟨_,hk0,hd0⟩:=hpa;obtain⟨_,hk1,hd1⟩:=hqa;dsimp only at hmin hmp hsz1 hsz2 hk0 hd0 hk1 hd1 hq1 hq2;rw[List.length_nil] at hsz2;have hgk:=HRR.o.hgk;have hb1:pb.length≤4000000:=by omega
        have hb3:qk≤4000000:=by omega
        have hb4:qd≤4000000:=by omega
        have HTK:=Hm (HK1.o m (by omega));have HTL:=Hm (HK2.o m (by omega));have HQ1:=Hm hq1;have HQ2:=Hm hq2;have HBAL:=Hm hbal;have HMIN:=Hm hmin;clear hq1 hq2 hbal hst hmin hsz1 hsz2 hsx hsy;go_upto_region 28 with fail
        have e20:(if qk+qd<(pb.length:Int) then qk+qd else (pb.length:Int))=(m:Int):=by have:=HMIN.o;split<;>omega
        have hm1:m≤4611686018427387903:=by omega
        have HMX:=Hm hmx;have HMY:=Hm hmy;(first | rw[e20] | rw[show min (pb.length:Int) (qk+qd)=(m:Int) from by have:=HMIN.o;omega]);clear e20
        by_cases hqk:0<qk
        ·obtain⟨hpa3,he3⟩:=HQ1.o hqk;have HE:=Hm he3;have HPA:=Hm hpa3;clear hpa3 he3;go_wp2_with (at_builtin;refine QE QK #[.int .i64 0,.int .i64 0,.string ⟨(pb.take m).toArray⟩] (HT2.o.alloc _).own rfl rfl rfl rfl (by simp) rfl (QP rfl rfl rfl) HL1.o HL2.o (Zh HL3.o) ?_;intro v9 w9 hown9 hbel9 hgr9 hnew9;obtain⟨A9,k9,rfl⟩:=Qm hown9;have HT9:=Hm ((HT2.o.alloc _).add (p:=⟨0,0,pb.take m⟩) HTG.o rfl hown9 hbel9 hgr9);clear hown9 hbel9 hgr9 hnew9)
         have HT10:=Hm (HT9.o.tkx HTG.o HTK.o);refine (QX (m:=m) HT9.o.bx rfl HAX.o hm1).mono ?_;rintro e w10 ⟨rfl,rfl⟩;go_wp2_with fail;refine (QX (m:=m) HT10.o.by_ rfl HAY.o hm1).mono ?_;rintro e w10 ⟨rfl,rfl⟩;go_wp2_with fail;obtain⟨g1,g2⟩:=HRR.o.step (i:=m) (j:=m) (HT10.o.tky HTG.o HTL.o) (Yj HRR.o.arg HPA.o) HE.o HBAL.o HMX.o HMY.o (by omega) (by simp) HP1.o HP2.o HM1.o HM2.o
         go_roundg ((tape lx ax).length-m+((tape ly ay).length-m))
         case measure=>exact g1
         case rel=>exact⟨_,_,_,_,_,_,_,_,_,g2⟩
        ·have HE:=Hm (HQ2.o hqk);have HT9:=Hm (HT2.o.alloc (.cells #[.int .i64 qk,.int .i64 qd,.string ⟨#[]⟩] 117));go_wp2_with fail;have HT10:=Hm (HT9.o.tkx HTG.o HTK.o);refine (QX (m:=m) HT9.o.bx rfl HAX.o hm1).mono ?_;rintro e w10 ⟨rfl,rfl⟩;go_wp2_with fail;refine (QX (m:=m) HT10.o.by_ rfl HAY.o hm1).mono ?_;rintro e w10 ⟨rfl,rfl⟩;go_wp2_with fail;obtain⟨g1,g2⟩:=HRR.o.step (i:=m) (j:=m) (HT10.o.tky HTG.o HTL.o) HRR.o.arg HE.o HBAL.o HMX.o HMY.o (by omega) (by simp) HP1.o HP2.o HM1.o HM2.o
         go_roundg ((tape lx ax).length-m+((tape ly ay).length-m))
         case measure=>exact g1
         case rel=>exact⟨_,_,_,_,_,_,_,_,_,g2⟩
      ·have hqb':(qb == [])=false:=by rw[Waf];exact hqb0
       obtain⟨hpa,heq,hbal,hle⟩:=Qnz (out:=out) HN1.o HN2.o hpd hqb0 HRR.o.bal;have ht1:=(HN2.o.isPut_ hqb0).1;subst ht1;have HPA:=Hm hpa;have HEQ:=Hm heq;have HBAL:=Hm hbal;have hsz:=(HN2.o.arg_ rfl).2.1;obtain⟨_,hk0,hd0⟩:=hpa;dsimp only at hle hsz hk0 hd0;have hql:=Wax.2 hqb0;have HTK:=Hm (HK2.o qb.length (by omega));have hql2:qb.length≤4611686018427387903:=by have:=HRR.o.hgk;omega
       clear heq hbal hsz hst
       cases s
       all_goals
        go_wp2_with (at_builtin;refine QE QK #[.int .i64 qk,.int .i64 qd,.string ⟨qb.toArray⟩] (HT2.o.alloc _).own rfl rfl rfl rfl (by simp) rfl (QP rfl rfl rfl) HL1.o HL2.o (Zh HL3.o) ?_;intro v9 w9 hown9 hbel9 hgr9 hnew9;obtain⟨A9,k9,rfl⟩:=Qm hown9;have HT9:=Hm ((HT2.o.alloc _).add (p:=⟨qk,qd,qb⟩) HTG.o rfl hown9 hbel9 hgr9);have hpb9:=(HPB.o.alloc _).only (Only.of_grown hgr9) (fun e=>by have:=hown0 _ e.symm;omega);have hqb9:=(Blk.new w8 117 #[.int .i64 qk,.int .i64 qd,.string ⟨qb.toArray⟩]).only (Only.of_grown hgr9) (fun e=>by have:=hown0 _ e.symm;omega);have P0:=hpb9.cell 0;have P1:=hpb9.cell 1;have P2:=hpb9.cell 2;have Q0:=hqb9.cell 0;have Q1:=hqb9.cell 1;have Q2:=hqb9.cell 2;simp only[Wab,Waa,Wae] at P0 P1 P2 Q0 Q1 Q2;clear hown9 hbel9 hgr9 hnew9 hpb9 hqb9)
        refine (QX (m:=qb.length) HT9.o.by_ rfl HAY.o hql2).mono ?_;rintro e w10 ⟨rfl,rfl⟩;go_wp2_with fail;obtain⟨g1,g2⟩:=HRR.o.step (i:=0) (j:=qb.length) (HT9.o.tky HTG.o HTK.o) (Yj HRR.o.arg HPA.o) HEQ.o HBAL.o (Nat.zero_le _) (by omega) (by omega) (by simp) HP1.o HP2.o HM1.o HM2.o
        go_roundg ((tape lx ax).length-0+((tape ly ay).length-qb.length))
        case measure=>exact g1
        case rel=>exact⟨_,_,_,_,_,_,_,_,_,g2⟩
    ·have hs0:s=false:=Bool.eq_false_iff.2 (fun e=>hst (.inl e));have ht0:t=false:=Bool.eq_false_iff.2 (fun e=>hst (.inr e));subst hs0 ht0
     have hnil:tape lx ax=[]∧tape ly ay=[]:=by
      refine⟨?_,?_⟩
      ·rcases HN1.o with ⟨h,_⟩ | ⟨_,_,h⟩
       ·exact absurd h (by decide)
       ·exact h
      ·rcases HN2.o with ⟨h,_⟩ | ⟨_,_,h⟩
       ·exact absurd h (by decide)
       ·exact h
     have HU:Hd (Qi out=U):=⟨by have:=HRR.o.eq;rw[hnil.1,hnil.2,cm] at this;simpa using this⟩
     have HM:Hd (was out≤4000000∧Qd out≤4000000):=⟨by
      obtain⟨_,_,e3⟩:=XH HRR.o.arg;have h1:=HUL.o;have h2:=ZJ HRR.o.arg;rw[HU.o] at e3;omega⟩
     clear hst hnil;go_wp2_with fail;refine (Qcd (Sl.of_own (HT2.o.alloc _).own) HRR.o.arg (by have:=HM.o;omega) (by have:=HM.o;omega) (by omega)).mono ?_;rintro e w9 ⟨⟨⟨v9,rfl,hs9⟩,hb9⟩,hf9⟩;have HS9:=Hm hs9;have HF9:Hd (Frs w.heap.size v9):=⟨(hf9 _ rfl).mono (by have h1:=HB7.o.size;have h2:=HT2.o.only.size;simp only[Waq];omega)⟩;clear hf9;obtain⟨A9,c9,rfl,-⟩:=hs9;have HB9:Hd (Below w.heap.size w w9):=⟨Qa (Qb (HB7.o.trans (HT2.o.only.below HB7.o.size (fun k hk=>by rintro (e | e)<;>omega))) _) hb9⟩;clear hb9;have HFI:Hd (norm out=YR U):=⟨by rw[Qb5 HRR.o.arg,HU.o]⟩;go_wp2_with fail;go_ret2
     exact⟨⟨HB9.o,.slice A9 (norm out).length c9,by rw[HTC.o];rfl,fun _=>by rw[← HFI.o];exact HS9.o,fun h=>absurd HTC.o h⟩,frE HF9.o⟩
  ·have HTC:Hd (cmc la lb=2):=⟨by unfold cmc;rw[if_pos H0.o,if_neg hw]⟩;have hw':(was lb == comes la)=false:=by rw[Waf];exact fun e=>hw e.symm
   clear hw;go_wp2_with fail;go_ret2
   exact⟨⟨HB3.o,.slice none 0 0,by rw[HTC.o];rfl,fun h=>by rw[HTC.o] at h;exact absurd h (by decide),fun _=>rfl⟩,frE (Frs.nil _)⟩
 ·have HTC:Hd (cmc la lb=Zf la lb):=⟨by unfold cmc;rw[if_neg h0]⟩;rw[Yq h0];have H0:=Hm h0;clear h0;generalize Zf la lb=z at *;go_wp2_with fail;go_ret2
  exact⟨⟨HB1.o,.slice none 0 0,by rw[HTC.o,Yq H0.o]<;>rfl,fun h=>by rw[HTC.o] at h;exact absurd h H0.o,fun _=>rfl⟩,frE (Frs.nil _)⟩
end
end
section
open Go.RowKit
theorem Jq (s:U.Bs)(a:Nat)(w:World)(h:a≤s.length) :
  Calls prog 314 #[.string ⟨s.toArray⟩,.int .i64 a] w fun e w'=>e=.returned (.bool (edg s a))∧w'=w:=by
 by_cases ha:a=s.length
 ·subst ha;rw[Qqa];have hb:((s.length:Int) == s.length)=true:=beq_self_eq_true _;go_enter func314,ntmps314
  go_wp2_with fail;go_ret
  exact⟨rfl,rfl⟩
 ·have hb:((a:Int) == s.length)=false:=by rw[Waf];omega
  have hl:a<s.length:=by omega
  have e0:=fun hh=>getD_at (s:=s) (j:=a) hl hh
  by_cases hc:U.cont (U.at_ s a)=true
  ·have hE:edg s a=false:=by simp[edg,ha,hc]
   rw[hE];have h1:=ZO hc;clear hE hc;generalize U.at_ s a=c at *;have hc256:c.toNat<256:=c.toNat_lt;go_enter func314,ntmps314
   go_wp2_with fail;go_ret
   exact⟨rfl,rfl⟩
  ·have hE:edg s a=true:=by simp[edg,hc]
   rw[hE];have h1:=YQ hc;clear hE hc;generalize U.at_ s a=c at *;have hc256:c.toNat<256:=c.toNat_lt;go_enter func314,ntmps314
   go_wp2_with fail;go_ret
   exact⟨rfl,rfl⟩
end
section
theorem Qo1 (n:Nat)(h:n<65536):n &&& 64512=n / 1024*1024:=by
 apply Nat.eq_of_testBit_eq
 intro i;have e1:n / 1024*1024=(n >>> 10) <<< 10:=by rw[Nat.shiftLeft_eq,Nat.shiftRight_eq_div_pow]
 have e2:(64512:Nat)=(2 ^ 6-1) <<< 10:=by decide
 rw[Nat.testBit_and,e1,e2,Nat.testBit_shiftLeft,Nat.testBit_shiftLeft,Nat.testBit_two_pow_sub_one,Nat.testBit_shiftRight]
 by_cases h1:10≤i
 ·have e3:10+(i-10)=i:=by omega
  rw[e3]
  by_cases h2:i<16
  ·simp[h1];omega
  ·have:n.testBit i=false:=Nat.testBit_lt_two_pow (Wal h (by have:=Nat.pow_le_pow_right (n:=2) (by decide) (by omega:16≤i);exact this))
   rw[this];simp
 ·simp[h1]
theorem Qo2 {x:Int}(h:0≤x∧x<65536):bits .and .u16 x 64512=x / 1024*1024:=by
 obtain⟨n,rfl⟩:=Was h.1;have e:=Qo1 n (by omega);have h1:((n:Int).toNat)=n:=by omega
 show IntKind.u16.wrap ((BitVec.ofInt 16 (n:Int) &&& BitVec.ofInt 16 64512).toNat:Int)=_
 rw[BitVec.toNat_and];have e1:(BitVec.ofInt 16 (n:Int)).toNat=n:=by simp;omega
 have e2:(BitVec.ofInt 16 64512).toNat=64512:=by decide
 rw[e1,e2,e];unfold IntKind.wrap;simp[IntKind.signed,IntKind.bits]
 omega
theorem Qgh {α:Type}{a b:List α}{k:Nat}{d:α}(h:k<a.length):(a++b).getD k d=a.getD k d:=by
 rw[List.getD_eq_getElem?_getD,List.getD_eq_getElem?_getD,List.getElem?_append_left h]
theorem Qo3 {α:Type}{a b:List α}{k:Nat}{d:α}(h:a.length≤k):(a++b).getD k d=b.getD (k-a.length) d:=by
 rw[List.getD_eq_getElem?_getD,List.getD_eq_getElem?_getD,Way h]
def Y8 (x:Int):Bool:=decide (55296≤x∧x<56320)
def Z5 (l:List Int)(a:Nat):Bool:=decide (0<a) && decide (a<l.length) && Y8 (l.getD (a-1) 0)
theorem Qo4 {r:Int}(h:U.right r=true):Y8 ((U.hv r).getD (U.hwid r-1) 0)=false:=by
 have hr:=U.right_iff.1 h;unfold U.hv U.hwid Y8
 split
 ·rw[decide_eq_false_iff_not];simp;omega
 ·rw[decide_eq_false_iff_not];simp;omega
theorem Qo5 {r:Int}(h:U.right r=true)(h2:U.hwid r=2):Y8 ((U.hv r).getD 0 0)=true:=by
 have hr:=U.right_iff.1 h;unfold U.hwid at h2
 split at h2
 ·omega
 ·rename_i h3
  unfold U.hv Y8;rw[if_neg h3,decide_eq_true_iff];simp;omega
theorem Qo6 {R:List Int}(h:U.AllR R){a:Nat}(ha:a≤(U.hvs R).length):Z5 (U.hvs R) a=false↔∃ p q,R=p++q∧(U.hvs p).length=a:=by
 induction R generalizing a with
 | nil =>
  have:a=0:=by simpa [U.hvs_nil] using ha
  subst this
  exact⟨fun _=>⟨[],[],rfl,rfl⟩,fun _=>by simp[Z5]⟩
 | cons r R ih =>
  have hr:=h r (by simp);have hR:U.AllR R:=fun x hx=>h x (by simp[hx])
  have hw:=U.hwid_pos r;have hw2:=U.hwid_le r;have hl:(U.hvs (r :: R)).length=U.hwid r+(U.hvs R).length:=by rw[U.hvs_cons,Wad,U.hv_length]
  by_cases h0:a=0
  ·subst h0
   exact⟨fun _=>⟨[],r :: R,rfl,rfl⟩,fun _=>by simp[Z5]⟩
  ·by_cases h1:a<U.hwid r
   ·have h2:U.hwid r=2:=by omega
    have h3:a=1:=by omega
    subst h3
    have e:(U.hvs (r :: R)).getD (1-1) 0=(U.hv r).getD 0 0:=by
     rw[U.hvs_cons,Qgh (by rw[U.hv_length];omega)]
    constructor
    ·intro hi;unfold Z5 at hi;rw[e,Qo5 hr h2,decide_eq_true (by omega),decide_eq_true (by omega)] at hi
     cases hi
    ·rintro⟨p,q,e1,e2⟩
     cases p with
     | nil=>simp[U.hvs_nil] at e2
     | cons x p =>
      rw[Wap] at e1;obtain⟨rfl,-⟩:=List.cons.inj e1;rw[U.hvs_cons,Wad,U.hv_length] at e2;omega
   ·obtain⟨b,rfl⟩:∃ b,a=U.hwid r+b:=⟨a-U.hwid r,by omega⟩;have hb:b≤(U.hvs R).length:=by omega
    have key:Z5 (U.hvs (r :: R)) (U.hwid r+b)=Z5 (U.hvs R) b:=by
     unfold Z5;rw[hl]
     by_cases hb0:b=0
     ·subst hb0
      have e:(U.hvs (r :: R)).getD (U.hwid r+0-1) 0=(U.hv r).getD (U.hwid r-1) 0:=by
       rw[U.hvs_cons,Nat.add_zero,Qgh (by rw[U.hv_length];omega)]
      rw[e,Qo4 hr];simp
     ·have e:(U.hvs (r :: R)).getD (U.hwid r+b-1) 0=(U.hvs R).getD (b-1) 0:=by
       rw[U.hvs_cons,Qo3 (by rw[U.hv_length];omega),U.hv_length]
       congr 1;omega
      rw[e];have e1:decide (0<U.hwid r+b)=decide (0<b):=decide_eq_decide.2 (by omega);have e2:decide (U.hwid r+b<U.hwid r+(U.hvs R).length)=decide (b<(U.hvs R).length):=decide_eq_decide.2 (by omega);rw[e1,e2]
    rw[key,ih hR hb]
    constructor
    ·rintro⟨p,q,rfl,e⟩
     exact⟨r :: p,q,rfl,by rw[U.hvs_cons,Wad,U.hv_length,e]⟩
    ·rintro⟨p,q,e1,e2⟩
     cases p with
     | nil=>simp[U.hvs_nil] at e2;omega
     | cons x p =>
      rw[Wap] at e1;obtain⟨rfl,rfl⟩:=List.cons.inj e1;rw[U.hvs_cons,Wad,U.hv_length] at e2
      exact⟨p,q,rfl,by omega⟩
end
end Go.Proofs.YtckkgdmkfbkaoaaGreatDoor
