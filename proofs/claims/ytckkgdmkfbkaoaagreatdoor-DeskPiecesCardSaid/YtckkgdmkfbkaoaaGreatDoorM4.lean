/- Texts of the proof. -/
import Derived.Test.YtckkgdmkfbkaoaaGreatDoorM3
import Derived.Lib.ConvBytes
import Derived.WalkSpells
import Derived.Deep.WholeRow
namespace Go.Proofs.YtckkgdmkfbkaoaaGreatDoor
open Go.Proofs.Tryz
set_option maxRecDepth 100000
set_option maxHeartbeats 32000000
set_option linter.all false
open Go.RowKit
def QM (w:World)(g:Nat)(m:Nat)(f:Nat→Nat):Prop:=∃ cs,Blk w g 340 cs∧cs.size=256∧∀ j,j<m→cs[j]?=some (.int .u8 (f j:Int))
theorem QM.at_ {w:World}{g m:Nat}{f:Nat→Nat}(h:QM w g m f):(∀ j,j<256→∃ v,w.cell? ⟨g,j,none⟩=some v)∧(∀ j,w.frozen? ⟨g,j,none⟩=false)∧g<w.heap.size∧∀ j,j<m→w.cell? ⟨g,j,none⟩=some (.int .u8 (f j:Int)):=by
 obtain⟨cs,hb,hs,hc⟩:=h
 exact⟨fun j hj=>⟨cs[j],by rw[hb.cell];exact Array.getElem?_eq_getElem (by omega)⟩,hb.frozen,hb.lt,fun j hj=>by rw[hb.cell];exact hc j hj⟩
theorem QM.set_ {w:World}{g m k v:Nat}{f:Nat→Nat}(h:QM w g m f)(hk:k<256):QM (w.setCell ⟨g,k,none⟩ (.int .u8 (v:Int))) g m (fun j=>if j=k then v else f j):=by
 obtain⟨cs,hb,hs,hc⟩:=h;refine⟨_,hb.set_ k _,by rw[Array.size_setIfInBounds];exact hs,fun j hj=>?_⟩
 by_cases e:j=k
 ·subst e;rw[Array.getElem?_setIfInBounds_self_of_lt (by omega)];simp
 ·rw[Array.getElem?_setIfInBounds_ne (by omega),hc j hj];simp[e]
theorem QM.more {w:World}{g k:Nat}{f:Nat→Nat}(h:QM w g k f)(hk:k<256):QM (w.setCell ⟨g,k,none⟩ (.int .u8 (f k:Int))) g (k+1) f:=by
 obtain⟨cs,hb,hs,hc⟩:=h;refine⟨_,hb.set_ k _,by rw[Array.size_setIfInBounds];exact hs,fun j hj=>?_⟩
 by_cases e:j=k
 ·subst e;rw[Array.getElem?_setIfInBounds_self_of_lt (by omega)]
 ·rw[Array.getElem?_setIfInBounds_ne (by omega)];exact hc j (by omega)
theorem QM.new (w:World):QM (w.alloc (.cells Tryz.zeroCells340 340)) w.heap.size 0 (fun j=>j):=⟨_,Blk.new w _ _,by kernel_rfl,fun j hj=>by omega⟩
theorem QM.below {w w':World}{B g m:Nat}{f:Nat→Nat}(h:QM w g m f)(hb:Below B w w')(hg:g<B):QM w' g m f:=by
 obtain⟨cs,h1,hs,hc⟩:=h
 exact⟨cs,h1.below hb hg,hs,hc⟩
def rpB (a b c d:UInt8)(j:Nat):Nat:=if j=a.toNat then b.toNat else if j=c.toNat then d.toNat else j
def Qu9 (a b c d:UInt8)(w:World)(e:Ending)(w':World):Prop :=
 e=.returned (.iface 341 (.pointer (some ⟨w.heap.size,0,none⟩)))∧Below w.heap.size w w'∧QM w' w.heap.size 256 (rpB a b c d)
theorem one_at (c:UInt8)(h:0<(ByteArray.mk #[c]).size):(ByteArray.mk #[c])[0]'h=c:=rfl
attribute [local go_sem] one_at in
theorem Qva {w:World}{B g cap:Nat}{a b c d:UInt8}(h4:w.cell? ⟨B,4,none⟩=some (.slice (some ⟨g,0,none⟩) 4 cap))
  (s0:w.cell? ⟨g,0,none⟩=some (.string ⟨#[a]⟩)) (s1:w.cell? ⟨g,1,none⟩=some (.string ⟨#[b]⟩)) (s2:w.cell? ⟨g,2,none⟩=some (.string ⟨#[c]⟩)) (s3:w.cell? ⟨g,3,none⟩=some (.string ⟨#[d]⟩)) :
  Calls prog 188 #[.pointer (some ⟨B,0,none⟩)] w (Qu9 a b c d w):=by
 have hst:=run_storeCells_new (P:=prog) w 340 Tryz.zeroCells340 Tryz.zeroCells340 (by kernel_rfl) rfl (by kernel_rfl);have hg:g<w.heap.size:=World.block_lt_of_cell? w ⟨g,0,none⟩ s0;go_enter func188,ntmps188
 go_wp2
 go_loop [4,5] (fun al i=>al=.bool true∧(i=.int .i64 0∨i=.int .i64 2∨i=.int .i64 4)) (fun _ i=>4-(intOf i).toNat)
 case atStart=>exact⟨rfl,.inl rfl⟩
 case round =>
  obtain⟨rfl,rfl | rfl | rfl⟩:=hrel
  ·go_wp2
   go_round
   case rel=>exact⟨rfl,.inr (.inl rfl)⟩
   case measure=>simp[intOf]
  ·go_wp2
   go_round
   case rel=>exact⟨rfl,.inr (.inr rfl)⟩
   case measure=>simp[intOf]
  ·go_wp2
   have hT:=QM.new w;have hB:Below w.heap.size w (w.alloc (.cells Tryz.zeroCells340 340)):=Qb (Wac _ _) _;obtain⟨W0,hW0⟩:∃ W,W=w.alloc (.cells Tryz.zeroCells340 340):=⟨_,rfl⟩;rw[← hW0] at hT hB ⊢;have HT:=Hm hT;have HB:=Hm hB;clear hW0 hT hB hst
   go_loopw [7,61] (fun _ i wr=>∃ k:Nat,k≤256∧i=.int .i64 k∧QM wr w.heap.size k (fun j=>j)∧Below w.heap.size w wr) (fun _ i _=>256-(intOf i).toNat)
   case atStart=>exact⟨0,by omega,rfl,HT.o,HB.o⟩
   case round =>
    obtain⟨k,hk,rfl,hT,hB⟩:=hrel;have HT:=Hm hT;have HB:=Hm hB;obtain⟨t1,t2,t3,t4⟩:=hT.at_
    by_cases hlt:k<256
    ·obtain⟨v,tc⟩:=t1 k hlt;have tf:=t2 k;clear t1 t2 t4 hT hB;go_wp2
     go_roundw
     case rel=>exact⟨k+1,by omega,by go_num,HT.o.more hlt,HB.o.setCell (p:=⟨w.heap.size,k,none⟩) (Wak _) _⟩
     case measure=>simp[intOf];omega
    ·obtain rfl:k=256:=by omega
     clear t1 t2 t3 t4 hT hB;go_wp2
     obtain⟨w1,rfl⟩:∃ W,W=wr:=⟨_,rfl⟩
     go_loopw [8,9,10] (fun i _ _ wr=>Below w.heap.size w wr∧((i=.int .i64 2∧QM wr w.heap.size 256 (fun j=>j))∨(i=.int .i64 0∧QM wr w.heap.size 256 (fun j=>if j=c.toNat then d.toNat else j))∨(i=.int .i64 (-2)∧QM wr w.heap.size 256 (rpB a b c d)))) (fun i _ _ _=>(intOf i+2).toNat)
     case atStart=>exact⟨HB.o,.inl ⟨rfl,HT.o⟩⟩
     case round =>
      obtain⟨hB,hx⟩:=hrel;have y0:wr.cell? ⟨g,0,none⟩=some (.string ⟨#[a]⟩):=(hB.cell (p:=⟨g,0,none⟩) hg).trans s0;have y1:wr.cell? ⟨g,1,none⟩=some (.string ⟨#[b]⟩):=(hB.cell (p:=⟨g,1,none⟩) hg).trans s1;have y2:wr.cell? ⟨g,2,none⟩=some (.string ⟨#[c]⟩):=(hB.cell (p:=⟨g,2,none⟩) hg).trans s2;have y3:wr.cell? ⟨g,3,none⟩=some (.string ⟨#[d]⟩):=(hB.cell (p:=⟨g,3,none⟩) hg).trans s3;have HB2:=Hm hB;clear hB;rcases hx with ⟨rfl,hT⟩ | ⟨rfl,hT⟩ | ⟨rfl,hT⟩
      ·have HT2:=Hm hT;obtain⟨t1,t2,t3,-⟩:=hT.at_;obtain⟨v,tc⟩:=t1 c.toNat c.toNat_lt;have tf:=t2 c.toNat
       have hb1:c.toNat<256:=c.toNat_lt;have hb2:(c.toNat:Int)<256:=by omega
       clear t1 t2 hT;go_wp2
       go_roundw
       case rel=>exact⟨HB2.o.setCell (p:=⟨w.heap.size,c.toNat,none⟩) (Wak _) _,.inr (.inl ⟨rfl,HT2.o.set_ c.toNat_lt⟩)⟩
       case measure=>simp[intOf]
      ·have HT2:=Hm hT;obtain⟨t1,t2,t3,-⟩:=hT.at_;obtain⟨v,tc⟩:=t1 a.toNat a.toNat_lt;have tf:=t2 a.toNat
       have hb1:a.toNat<256:=a.toNat_lt;have hb2:(a.toNat:Int)<256:=by omega
       clear t1 t2 hT;go_wp2
       go_roundw
       case rel=>exact⟨HB2.o.setCell (p:=⟨w.heap.size,a.toNat,none⟩) (Wak _) _,.inr (.inr ⟨rfl,HT2.o.set_ a.toNat_lt⟩)⟩
       case measure=>simp[intOf]
      ·have HT2:=Hm hT;clear hT;go_wp2
       go_ret
       exact⟨rfl,HB2.o,HT2.o⟩
structure RpN (N:Nat)(w0 w:World)(B g cap:Nat)(i1:Int)(a b c d:UInt8):Prop where
 blk:Blk w B 233 #[.int .u32 0,.int .i32 i1,.int .u32 0,.nilIface,.slice (some ⟨g,0,none⟩) 4 cap]
 s0:w.cell? ⟨g,0,none⟩=some (.string ⟨#[a]⟩)
 s1:w.cell? ⟨g,1,none⟩=some (.string ⟨#[b]⟩)
 s2:w.cell? ⟨g,2,none⟩=some (.string ⟨#[c]⟩)
 s3:w.cell? ⟨g,3,none⟩=some (.string ⟨#[d]⟩)
 bel:Below N w0 w
 hB:N≤B
 gB:g≠B
theorem JA {w:World}{g:Nat}{ty:TypeId}{a0 a1 a2 a3 a4:Value}(h:Blk w g ty #[a0,a1,a2,a3,a4]) :
  w.cell? ⟨g,0,none⟩=some a0∧w.cell? ⟨g,1,none⟩=some a1∧w.cell? ⟨g,2,none⟩=some a2∧w.cell? ⟨g,3,none⟩=some a3∧w.cell? ⟨g,4,none⟩=some a4:=by
 have z:=fun j=>h.cell j
 have z0:=z 0;have z1:=z 1;have z2:=z 2;have z3:=z 3;have z4:=z 4;simp only[Wab,Waa,Wae] at z0 z1 z2 z3 z4
 exact⟨z0,z1,z2,z3,z4⟩
theorem XY:El prog 22 9 1 16:=El.mk' underlying22 (by kernel_rfl) (by decide)
def Qvb (w:World)(a b c d:UInt8)(e:Ending)(w':World):Prop:=∃ B g cap,e=.returned (.pointer (some ⟨B,0,none⟩))∧RpN w.heap.size w w' B g cap 0 a b c d
theorem Qvc {w:World}{base:Nat}{e:TypeId}{v x0 x1 x2 x3:Value}(h:w.ownsRow base e 1 v 4 [x0,x1,x2,x3]):∃ g cap,v=.slice (some ⟨g,0,none⟩) 4 cap∧base≤g∧g<w.heap.size∧w.cell? ⟨g,0,none⟩=some x0∧w.cell? ⟨g,1,none⟩=some x1∧w.cell? ⟨g,2,none⟩=some x2∧w.cell? ⟨g,3,none⟩=some x3:=by
 have hlt:=h.lt;rcases h.2 with ⟨e,e2⟩ | ⟨g,cap,cur,hv,-⟩
 ·omega
 ·obtain⟨l1,l2⟩:=hlt g (by rw[hv];rfl);have hs:=Sl.of_own h;rw[hv] at hs;have hc:=fun k (hk:k<4)=>hs.at_ hk
  obtain⟨ad,c0,u0,e0,-,g0,k0⟩:=hc 0 (by decide);obtain⟨ad1,c1,u1,e1,-,g1,k1⟩:=hc 1 (by decide);obtain⟨ad2,c2,u2,e2,-,g2,k2⟩:=hc 2 (by decide);obtain⟨ad3,c3,u3,e3,-,g3,k3⟩:=hc 3 (by decide)
  cases e0
  cases e1
  cases e2
  cases e3
  cases g0
  cases g1
  cases g2
  cases g3
  exact⟨g,cap,hv,l1,l2,k0,k1,k2,k3⟩
theorem Qja {w:World}{p:Nat}{a b c d:UInt8}(hp:Sl w 1 (.slice (some ⟨p,0,none⟩) 4 4) 4 [.string ⟨#[a]⟩,.string ⟨#[b]⟩,.string ⟨#[c]⟩,.string ⟨#[d]⟩]) :
  Calls prog 86 #[.slice (some ⟨p,0,none⟩) 4 4] w (Qvb w a b c d):=by
 have HP:=Hm hp;clear hp;go_enter func86,ntmps86
 go_wp2_with (at_builtin;refine Qsm XY [.string ⟨#[a]⟩,.string ⟨#[b]⟩,.string ⟨#[c]⟩,.string ⟨#[d]⟩] (.slice (some ⟨p,0,none⟩) 4 4) (World.ownsRow_nil w w.heap.size 9 1) HP.o rfl rfl rfl rfl (by simp[Value.oneCell']) (by unfold maxLen;omega) (by omega) (Wak _) ?_;intro v' w1 hown1 hb1 _;obtain⟨g,cap,rfl,hg1,hg2,k0,k1,k2,k3⟩:=Qvc hown1;have HB1:=Hm hb1;have HG:=Hm (Wao hg1 hg2);have HK:=Hm (Wao k0 (Wao k1 (Wao k2 k3)));clear hown1 hb1 hg1 hg2 k0 k1 k2 k3)
 go_ret;have hx:Below w1.heap.size w1 (w1.alloc (.cells #[.int .u32 0,.int .i32 0,.int .u32 0,.nilIface,.slice (some ⟨g,0,none⟩) 4 cap] 233)):=Qb (Wac _ _) _;obtain⟨k0,k1,k2,k3⟩:=HK.o
 exact⟨_,g,cap,rfl,Blk.new w1 _ _,(hx.cell (p:=⟨g,0,none⟩) HG.o.2).trans k0,(hx.cell (p:=⟨g,1,none⟩) HG.o.2).trans k1,(hx.cell (p:=⟨g,2,none⟩) HG.o.2).trans k2,(hx.cell (p:=⟨g,3,none⟩) HG.o.2).trans k3,Qa HB1.o hx,HB1.o.size,by have:=HG.o.2;omega⟩
def RpQ (N B:Nat)(w:World)(a b c d:UInt8)(w2:World):Prop:=∃ k,Blk w2 B 233 #[.int .u32 0,.int .i32 1,.int .u32 0,.iface 341 (.pointer (some ⟨k,0,none⟩)),.slice none 0 0]∧QM w2 k 256 (rpB a b c d)∧k≠B∧Below N w w2
theorem Qvd {N B g cap:Nat}{w0 w:World}{a b c d:UInt8}(h:RpN N w0 w B g cap 1 a b c d)(hN:N≤w.heap.size) :
  Calls prog 137 #[.pointer (some ⟨B,0,none⟩)] w (Qc5 B (RpQ N B w a b c d)):=by
 obtain⟨z0,z1,z2,z3,z4⟩:=JA h.blk;have HBL:=Hm (Qva z4 h.s0 h.s1 h.s2 h.s3);have H:=Hm h;have HN:=Hm hN;have hlt:=h.blk.lt;clear h z0 z1 z2 z3 z4 hN;go_enter func137,ntmps137
 go_wp2_with (go_at_call 188;refine HBL.o.mono ?_;rintro e w1 ⟨rfl,hb1,ht1⟩;have HB1:=Hm hb1;have HT1:=Hm ht1;obtain⟨y0,y1,y2,y3,y4⟩:=JA (H.o.blk.below hb1 hlt);have yf:=(H.o.blk.below hb1 hlt).frozen;have yl:=(H.o.blk.below hb1 hlt).lt;clear hb1 ht1)
 go_end0;have hk:=((H.o.blk.below HB1.o H.o.blk.lt).set_ 3 (.iface 341 (.pointer (some ⟨w.heap.size,0,none⟩)))).set_ 4 (.slice none 0 0);have hne:w.heap.size≠B:=by have:=H.o.blk.lt;omega
 obtain⟨x0,x1,x2,x3,x4⟩:=JA hk;refine⟨rfl,⟨x0,x1,hk.frozen 0,hk.frozen 1⟩,_,hk,?_,hne,?_⟩
 ·obtain⟨cs,t1,t2,t3⟩:=HT1.o
  exact⟨cs,(t1.far (p:=⟨B,3,none⟩) hne _).far (p:=⟨B,4,none⟩) hne _,t2,t3⟩
 ·exact ((HB1.o.mono HN.o).setCell (p:=⟨B,3,none⟩) H.o.hB _).setCell (p:=⟨B,4,none⟩) H.o.hB _
end Go.Proofs.YtckkgdmkfbkaoaaGreatDoor
