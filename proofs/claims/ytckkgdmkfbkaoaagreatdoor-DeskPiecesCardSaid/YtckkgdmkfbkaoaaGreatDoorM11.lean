/- Texts of the proof. -/
import Derived.Test.YtckkgdmkfbkaoaaGreatDoorM10
import Derived.RangeFuncNested
import Derived.RangeFuncBound
import Derived.RangeFuncCalls
import Derived.RangeFuncLeaves
import Derived.Shelf.Abstract
import Derived.Shelf.RegionOpen
import Derived.OwnWalkIn
import Derived.TacticsInMore
import Derived.LoopNIn
import Derived.LoopIn
namespace Go.Proofs.YtckkgdmkfbkaoaaGreatDoor
open Go.Proofs.Tryz
set_option maxRecDepth 100000
set_option maxHeartbeats 32000000
set_option linter.all false
section
open Go.RowKit Go.Shelf
attribute [local go_sem] Oper.semAt_some
def KpB (b:Nat)(A A':World):Prop:=A.heap.size≤A'.heap.size∧∀ k cs t,A.heap[k]?=some (.cells cs t (0,0))→k≠b→A'.heap[k]?=some (.cells cs t (0,0))
theorem XC {w:World}{g:Nat}{x y:Cn}(h:Qg w g x):Qg ((((w.setCell ⟨g,0,none⟩ (.int .i64 y.b)).setCell ⟨g,1,none⟩ (.int .i64 y.h)).setCell ⟨g,2,none⟩ (.int .i64 y.r)).setCell ⟨g,3,none⟩ (.int .i64 y.l)) g y ∧
  (∀ B,B≤g→Below B w ((((w.setCell ⟨g,0,none⟩ (.int .i64 y.b)).setCell ⟨g,1,none⟩ (.int .i64 y.h)).setCell ⟨g,2,none⟩ (.int .i64 y.r)).setCell ⟨g,3,none⟩ (.int .i64 y.l))) ∧
  ∀ g',g'≠g→((((w.setCell ⟨g,0,none⟩ (.int .i64 y.b)).setCell ⟨g,1,none⟩ (.int .i64 y.h)).setCell ⟨g,2,none⟩ (.int .i64 y.r)).setCell ⟨g,3,none⟩ (.int .i64 y.l)).heap[g']?=w.heap[g']? :=
 h.set4 (F:=fun V=>Qg V g y∧(∀ B,B≤g→Below B w V)∧∀ g',g'≠g→V.heap[g']?=w.heap[g']?) (fun _ h1 h2 _ h4=>⟨h1,h2,h4⟩)
section
attribute [local go_sem] Xf
theorem Qhd (n l sB iB:Nat){s:U.Bs}{rs:List Int}{rest:U.Bs}(hsp:U.Sp s rs rest)(hs:s.length≤1000000)(J Jx:Nat→World→Prop)(W:World)(hn:3≤n)
  (hsB:Blk W sB 9 #[.string ⟨s.toArray⟩]) (hib:iB<W.heap.size) (hne:sB≠iB)
  (hJ:∀ k A B,J k A→Below W.heap.size A B→J k B)
  (hY:∀ k A (hk:k<rs.length),J k A→YieldAt Fence.wide (n-1) prog l #[(cnt (rs.take k)).v,(Q7 rs[k] (U.wid rs[k])).v] A fun e A'=>(e=.returned (.bool true)∧J (k+1) A'∧KpB iB A A')∨(e=.returned (.bool false)∧Jx (k+1) A'))
  (h0:J 0 W):CallsIn Fence.wide n prog 302 #[.func (.yield l) #[] #[],.pointer (some ⟨sB,0,none⟩)] W fun e W'=>(∃ v,e=.returned v)∧(J rs.length W'∨∃ k,k≤rs.length∧Jx k W'):=by
 have HSP:=Hm hsp;have hlen:=hsp.length;have hll:=U.len_le_off rs;have HL:=Hm hlen;have hle:U.off rs rs.length≤s.length:=by omega
 clear hsp hlen;have c0:=hsB.cell 0;simp only[Wab,Waa] at c0;refine callsIn_of_wp func302 rfl trivial ?_ rfl
 simp only[ntmps302,List.size_toArray,Wan,List.length_nil,Nat.reduceAdd,Nat.reduceSub,Array.replicate_succ,Array.replicate_zero,List.push_toArray,List.append_toArray,Wbn,Wap]
 gi_wp2_with fail
 gi_loopw [4] (fun i wr=>∃ k:Nat,k≤rs.length∧i=.int .i64 (U.off rs k)∧Qg wr W.heap.size (cnt (rs.take k))∧Blk wr sB 9 #[.string ⟨s.toArray⟩]∧J k wr) (fun i _=>s.length-(intOf i).toNat)
 case atStart=>exact⟨0,by omega,rfl,Blk.new _ _ _,hsB.alloc _,hJ 0 _ _ h0 ((Wac _ _).alloc (Wak _) _)⟩
 case round =>
  obtain⟨k,hk,rfl,hc,hsb,hj⟩:=hrel;have HC:=Hm hc;have HSB:=Hm hsb;have HJ:=Hm hj;have hcl:=hc.lt;have d0:=hsb.cell 0;simp only[Wab,Waa] at d0;obtain⟨e0,e1,e2,e3⟩:=hc.cells;have ef:=hc.frozen
  by_cases hlt:k<rs.length
  ·have hol:U.off rs k<U.off rs rs.length:=U.off_lt hlt;have HN:=Hm (HSP.o.next_at hlt);have HO:=Hm (U.off_succ hlt);have HY:=Hm (hY k · hlt);have HCS:Hd (cnt (rs.take (k+1))=(cnt (rs.take k)).add (Q7 rs[k] (U.wid rs[k]))):=⟨by rw[Wag hlt,YM]⟩;have hw1:=U.wid_pos rs[k];have hw2:=U.wid_le rs[k];have HCI:=Hm (Zk (rs.take k)).1
   have hci:(cnt (rs.take k)).In 2305843009213693952:=by
    obtain⟨⟨b0,b1,h0,h1,r0,r1,l0,l1⟩,_,_⟩:=Zk (rs.take k);rw[Wbb] at b1 h1 r1 l1
    exact⟨b0,by omega,h0,by omega,r0,by omega,l0,by omega⟩
   have HCI2:=Hm hci
   have HOI:Hd ((Q7 rs[k] (U.wid rs[k])).In 2305843009213693952):=⟨by
    obtain⟨b0,b1,h0,h1,r0,r1,l0,l1⟩:=Qa6 rs[k]
    exact⟨b0,by omega,h0,by omega,r0,by omega,l0,by omega⟩⟩
   generalize rs[k]=r at *;have hn0:((U.wid r:Int) == 0)=false:=by rw[Waf];omega
   clear hci hc hsb hj
   gi_wp2_with fail
   refine⟨trivial,fun h=>absurd h (by decide),(callsIn_wide.2 (next_at HN.o _ (by rw[War];omega))).mono ?_⟩;rintro e w' ⟨rfl,rfl⟩
   gi_wp2_with fail
   refine⟨trivial,fun h=>absurd h (by decide),(callsIn_wide.2 (Qfo r (U.wid r) _)).mono ?_⟩;rintro e w1 ⟨rfl,hb1⟩;generalize Q7 r (U.wid r)=x1 at *;generalize cnt (rs.take k)=cc at *;have hzw:W.heap.size≤wr.heap.size:=by omega
   have hc1:=HC.o.below hb1 hcl;have hsb1:=HSB.o.below hb1 HSB.o.lt;have hxb:Blk (w1.alloc (.cells #[.int .i64 x1.b,.int .i64 x1.h,.int .i64 x1.r,.int .i64 x1.l] 125)) w1.heap.size 125 #[.int .i64 x1.b,.int .i64 x1.h,.int .i64 x1.r,.int .i64 x1.l]:=Blk.new _ _ _;have hca:Qg (w1.alloc (.cells #[.int .i64 x1.b,.int .i64 x1.h,.int .i64 x1.r,.int .i64 x1.l] 125)) W.heap.size cc:=(Below.heap_alloc w1 _ _ hc1.lt).trans hc1;have hsba:=hsb1.alloc (.cells #[.int .i64 x1.b,.int .i64 x1.h,.int .i64 x1.r,.int .i64 x1.l] 125);have hja:=hJ k wr _ HJ.o ((hb1.mono hzw).alloc (by have:=hb1.size;omega) (.cells #[.int .i64 x1.b,.int .i64 x1.h,.int .i64 x1.r,.int .i64 x1.l] 125));have hz1:=hb1.size;obtain⟨e0,e1,e2,e3⟩:=hc1.cells;have hlt1:=hc1.lt;have hne1:W.heap.size≠w1.heap.size:=by omega
   have hne2:¬ W.heap.size=w1.heap.size:=hne1;obtain⟨fn,tmps,assign,body,hy,hR⟩:=HY.o _ hja;have HR:=Hm hR;have HXB:=Hm hxb;have HCA:=Hm hca;have HSBA:=Hm hsba;clear hR hxb hca hsba hja hb1 hc1 hsb1
   gi_wp2_with fail
   refine⟨fun _=>by omega,HR.o.mono ?_⟩;rintro e W3 (⟨rfl,hJ3,hk3⟩ | ⟨rfl,hJx3⟩)
   ·have hz3:=hk3.1;simp only[Waq] at hz3;have hc3:Qg W3 W.heap.size cc:=hk3.2 _ _ _ HCA.o (by omega);have hx3:Qg W3 w1.heap.size x1:=hk3.2 _ _ _ HXB.o (by omega);have hs3:Blk W3 sB 9 #[.string ⟨s.toArray⟩]:=hk3.2 _ _ _ HSBA.o hne;obtain⟨e0,e1,e2,e3⟩:=hc3.cells;obtain⟨f0,f1,f2,f3⟩:=hx3.cells;have HC3:=Hm hc3;have HS3:=Hm hs3;have HJ3:=Hm hJ3;clear hc3 hx3 hs3 hJ3 hk3
    gi_wp2_with fail
    refine⟨trivial,fun h=>absurd h (by decide),(callsIn_wide.2 (Zm cc x1 _ HCI2.o HOI.o)).mono ?_⟩;rintro e w4 ⟨rfl,hb4⟩;have hc4:=HC3.o.below hb4 HC3.o.lt;obtain⟨e0,e1,e2,e3⟩:=hc4.cells;have ef4:=hc4.frozen;have HC4:=Hm hc4;have HS4:=Hm (HS3.o.below hb4 HS3.o.lt);have hzz:W.heap.size≤W3.heap.size:=by omega
    have HJ4:=Hm (hJ (k+1) _ _ HJ3.o (hb4.mono hzz));have hsn:sB≠W.heap.size:=by have:=hsB.lt;omega
    obtain⟨n1,n2,n3⟩:=XC (y:=cc.add x1) HC4.o;have HN1:=Hm n1;have HN2:=Hm (hJ (k+1) _ _ HJ4.o (n2 _ (Wak _)));have HN3:Hd (Blk _ sB 9 #[.string ⟨s.toArray⟩]):=⟨(n3 sB hsn).trans HS4.o⟩;clear hc4 hb4 n1 n2 n3
    gi_wp2_with fail
    exact⟨⟨k+1,by omega,by rw[HO.o];go_num,by rw[HCS.o];exact HN1.o,HN3.o,HN2.o⟩,by simp only[intOf];omega⟩
   ·gi_wp2_with fail
    refine Waz (results_none rfl _ _ _) rfl ?_
    exact⟨⟨_,rfl⟩,.inr ⟨k+1,by omega,hJx3⟩⟩
  ·obtain rfl:k=rs.length:=by omega
   have HJE:=Hm hj;clear hc hsb hj HC HSB
   by_cases hr:rest=[]
   ·subst hr;have hge:¬ U.off rs rs.length<s.length:=by have:=HL.o;simp at this;omega
    clear hlt
    gi_wp2_with fail
    go_end0
    exact⟨⟨_,rfl⟩,.inl HJE.o⟩
   ·have hlt':U.off rs rs.length<s.length:=by
     have:=HL.o
     have h2:0<rest.length:=Wax.2 hr;omega
    have HN:=Hm HSP.o.next_end;clear hlt hr
    gi_wp2_with fail
    refine⟨trivial,fun h=>absurd h (by decide),(callsIn_wide.2 (next_at HN.o _ (by rw[War];omega))).mono ?_⟩;rintro e w' ⟨rfl,rfl⟩
    gi_wp2_with fail
    refine Waz (results_none rfl _ _ _) rfl ?_
    exact⟨⟨_,rfl⟩,.inl HJE.o⟩
end
end
section
open Go.RowKit
theorem Qcw {x y:Cn}(h1:x.b=y.b)(h2:x.h=y.h)(h3:x.r=y.r)(h4:x.l=y.l):x=y:=by
 cases x;cases y;simp_all
theorem Zo (a b:List Int):cnt (a++b)=(cnt a).add (cnt b):=by
 suffices h:∀ n (b:List Int),b.length=n→cnt (a++b)=(cnt a).add (cnt b) from h _ b rfl
 intro n
 induction n with
 | zero =>
  intro b hb;obtain rfl:=List.length_eq_zero_iff.1 hb;rw[Wam];refine Qcw ?_ ?_ ?_ ?_<;>simp[Cn.add,cnt,Cn.zero]
 | succ n ih =>
  intro b hb
  obtain⟨c,r,rfl⟩:∃ c r,b=c++[r]:=by
   rcases List.eq_nil_or_concat b with rfl | ⟨c,r,rfl⟩
   ·simp at hb
   ·exact⟨c,r,by simp⟩
  rw[← Wah,YM,ih c (by simp at hb;omega),YM];refine Qcw ?_ ?_ ?_ ?_<;>simp[Cn.add,Int.add_assoc]
theorem Zj {rs:List Int}(h:rs.length≤1099511627776):(cnt rs).In 2305843009213693952:=by
 obtain⟨⟨b0,b1,h0,h1,r0,r1,l0,l1⟩,_,_⟩:=Zk rs
 exact⟨b0,by omega,h0,by omega,r0,by omega,l0,by omega⟩
inductive RT where
 | nil:RT
 | node (g:Nat) (rs:List Int) (l r:RT):RT
namespace RT
def high:RT→Nat
 | nil=>0
 | node _ _ l r=>1+max l.high r.high
def nodes:RT→List (Nat × List Int)
 | nil=>[]
 | node g rs l r=>l.nodes++(g,rs) :: r.nodes
def runes:RT→List Int
 | nil=>[]
 | node _ rs l r=>l.runes++rs++r.runes
def blocks (t:RT):List Nat:=t.nodes.map Prod.fst
def pa:RT→Option Addr
 | nil=>none
 | node g _ _ _=>some ⟨g,0,none⟩
def ptr (t:RT):Value:=.pointer t.pa
theorem ptr_nil:nil.ptr=.pointer none:=rfl
theorem ptr_node (g:Nat)(rs:List Int)(l r:RT):(node g rs l r).ptr=.pointer (some ⟨g,0,none⟩):=rfl
@[simp] theorem high_nil:nil.high=0:=rfl
@[simp] theorem high_node (g:Nat) (rs:List Int) (l r:RT):(node g rs l r).high=1+max l.high r.high:=rfl
@[simp] theorem nodes_nil:nil.nodes=[]:=rfl
@[simp] theorem nodes_node (g:Nat) (rs:List Int) (l r:RT):(node g rs l r).nodes=l.nodes++(g,rs) :: r.nodes:=rfl
@[simp] theorem blocks_nil:nil.blocks=[]:=rfl
@[simp] theorem blocks_node (g:Nat) (rs:List Int) (l r:RT):(node g rs l r).blocks=l.blocks++g :: r.blocks:=by simp[blocks]
@[simp] theorem runes_nil:nil.runes=[]:=rfl
@[simp] theorem runes_node (g:Nat) (rs:List Int) (l r:RT):(node g rs l r).runes=l.runes++rs++r.runes:=rfl
theorem runes_nodes (t:RT):t.runes=t.nodes.flatMap Prod.snd:=by
 induction t with
 | nil=>rfl
 | node g rs l r ihl ihr=>simp[ihl,ihr]
theorem high_le (t:RT):t.high≤t.nodes.length:=by
 induction t with
 | nil=>simp
 | node g rs l r ihl ihr=>simp;omega
end RT
def ZK (rs:List Int)(all:Cn)(l r:Value)(h:Int):Array Value :=
 #[.string ⟨(U.encs rs).toArray⟩,.int .i64 (cnt rs).b,.int .i64 (cnt rs).h,.int .i64 (cnt rs).r,.int .i64 (cnt rs).l,.int .i64 all.b,.int .i64 all.h,.int .i64 all.r,.int .i64 all.l,l,r,.int .i64 h]
def AtT (w:World):RT→Prop
 | .nil=>True
 | .node g rs l r=>Blk w g 393 (ZK rs (cnt (l.runes++rs++r.runes)) l.ptr r.ptr ((1+max l.high r.high:Nat):Int))∧AtT w l∧AtT w r
def YX (w:World)(g:Nat)(rs:List Int)(l r:RT):Prop :=
 (∃ all h,Blk w g 393 (ZK rs all l.ptr r.ptr h))∧AtT w l∧AtT w r
theorem AtT.raw {w:World}{g:Nat}{rs:List Int}{l r:RT}(h:AtT w (.node g rs l r)):YX w g rs l r:=⟨⟨_,_,h.1⟩,h.2⟩
theorem AtT.only {S:Nat→Prop}{w w':World}{t:RT}(h:AtT w t)(ho:Only S w w')(hs:∀ b∈t.blocks,¬ S b):AtT w' t:=by
 induction t with
 | nil=>trivial
 | node g rs l r ihl ihr =>
  simp only[RT.blocks_node,List.mem_append,Wbk] at hs
  exact⟨h.1.only ho (hs g (.inr (.inl rfl))),ihl h.2.1 (fun b hb=>hs b (.inl hb)),ihr h.2.2 (fun b hb=>hs b (.inr (.inr hb)))⟩
theorem AtT.below {w w':World}{t:RT}(h:AtT w t)(hb:Below w.heap.size w w'):AtT w' t:=h.only (Only.of_below (S:=fun _=>False) hb) (fun _ _ h=>h)
theorem AtT.lt {w:World}{t:RT}(h:AtT w t):∀ b∈t.blocks,b<w.heap.size:=by
 induction t with
 | nil=>simp
 | node g rs l r ihl ihr =>
  simp only[RT.blocks_node,List.mem_append,Wbk];rintro b (hb | rfl | hb)
  ·exact ihl h.2.1 b hb
  ·exact h.1.lt
  ·exact ihr h.2.2 b hb
theorem Qv {w:World}{g:Nat}{rs:List Int}{all:Cn}{l r:Value}{h:Int}(hb:Blk w g 393 (ZK rs all l r h)) :
  w.cell? ⟨g,0,none⟩=some (.string ⟨(U.encs rs).toArray⟩)∧w.cell? ⟨g,1,none⟩=some (.int .i64 (cnt rs).b)∧w.cell? ⟨g,2,none⟩=some (.int .i64 (cnt rs).h)∧w.cell? ⟨g,3,none⟩=some (.int .i64 (cnt rs).r)∧w.cell? ⟨g,4,none⟩=some (.int .i64 (cnt rs).l) ∧
  w.cell? ⟨g,5,none⟩=some (.int .i64 all.b)∧w.cell? ⟨g,6,none⟩=some (.int .i64 all.h)∧w.cell? ⟨g,7,none⟩=some (.int .i64 all.r)∧w.cell? ⟨g,8,none⟩=some (.int .i64 all.l) ∧
  w.cell? ⟨g,9,none⟩=some l∧w.cell? ⟨g,10,none⟩=some r∧w.cell? ⟨g,11,none⟩=some (.int .i64 h) :=
 ⟨hb.cell 0,hb.cell 1,hb.cell 2,hb.cell 3,hb.cell 4,hb.cell 5,hb.cell 6,hb.cell 7,hb.cell 8,hb.cell 9,hb.cell 10,hb.cell 11⟩
end
section
theorem JZ (x y:Cn)(u:Int):(x.add y).of u=x.of u+y.of u:=by
 unfold Cn.of Cn.add
 repeat' split
 all_goals simp
theorem ZC (u:Int):Cn.zero.of u=0:=by
 unfold Cn.of Cn.zero
 repeat' split
 all_goals rfl
theorem QQ:cnt []=Cn.zero:=rfl
theorem Qfj (r:Int):cnt [r]=Q7 r (U.wid r):=by
 have:=YM [] r
 simp only[Wbn] at this;rw[this,QQ];unfold Cn.add Cn.zero;refine Qcw ?_ ?_ ?_ ?_<;>simp
theorem Qfk (r:Int){u:Int}(hu:1≤u∧u≤3):1≤(Q7 r (U.wid r)).of u:=by
 have:=U.wid_pos r
 obtain rfl | rfl | rfl:u=1∨u=2∨u=3:=by omega
 all_goals simp only[Cn.of,Q7]
 ·simp;omega
 ·simp;split<;>omega
 ·simp
theorem Y5 (rs:List Int){u:Int}(hu:1≤u∧u≤3):(rs.length:Int)≤(cnt rs).of u:=by
 induction rs with
 | nil=>rw[QQ,ZC];simp
 | cons r rs ih =>
  have e:r :: rs=[r]++rs:=rfl;rw[e,Zo,JZ,Qfj]
  have:=Qfk r hu
  simp;omega
theorem QJ (rs:List Int)(u:Int):0≤(cnt rs).of u:=by
 obtain⟨⟨b0,b1,h0,h1,r0,r1,l0,l1⟩,-,-⟩:=Zk rs;unfold Cn.of
 repeat' split
 all_goals omega
theorem Yb (rs:List Int):0≤(cnt rs).l:=by
 obtain⟨⟨b0,b1,h0,h1,r0,r1,l0,l1⟩,-,-⟩:=Zk rs;exact l0
theorem Qp (a b:List Int)(u:Int):(cnt (a++b)).of u=(cnt a).of u+(cnt b).of u:=by rw[Zo,JZ]
theorem QZ (a b:List Int):(cnt (a++b)).l=(cnt a).l+(cnt b).l:=by rw[Zo];rfl
theorem XJ (r:Int):(cnt [r]).l=if r=10 then 1 else 0:=by rw[Qfj];rfl
def Pl (u at_:Int)(R:List Int)(c:Cn):Prop:=∃ p q,R=p++q∧(cnt p).of u=at_∧c=cnt p
theorem XK {p q p' q':List Int}(h:p++q=p'++q'):(∃ d,p'=p++d∧q=d++q')∨(∃ d,p=p'++d∧q'=d++q):=by
 rcases List.append_eq_append_iff.1 h with ⟨c,h1,h2⟩ | ⟨c,h1,h2⟩
 ·exact .inl ⟨c,h1,h2⟩
 ·exact .inr ⟨c,h1,h2⟩
theorem Qfl {p q p' q':List Int}{u:Int}(hu:1≤u∧u≤3)(h:p++q=p'++q')(e:(cnt p).of u=(cnt p').of u):p=p'∧q=q':=by
 rcases XK h with ⟨d,h1,h2⟩ | ⟨d,h1,h2⟩
 ·rw[h1,Qp] at e
  have:=Y5 d hu
  have:d=[]:=List.eq_nil_of_length_eq_zero (by omega)
  subst this;simp at h1 h2;exact⟨h1.symm,h2⟩
 ·rw[h1,Qp] at e
  have:=Y5 d hu
  have:d=[]:=List.eq_nil_of_length_eq_zero (by omega)
  subst this;simp at h1 h2;exact⟨h1,h2.symm⟩
theorem Pl.unique {u at_:Int}{R:List Int}{c c':Cn}(hu:1≤u∧u≤3)(h:Pl u at_ R c)(h':Pl u at_ R c'):c=c':=by
 obtain⟨p,q,e1,e2,rfl⟩:=h;obtain⟨p',q',e1',e2',rfl⟩:=h';rw[(Qfl hu (e1.symm.trans e1') (e2.trans e2'.symm)).1]
theorem Pl.range {u at_:Int}{R:List Int}{c:Cn}(h:Pl u at_ R c):0≤at_∧at_≤(cnt R).of u:=by
 obtain⟨p,q,rfl,rfl,rfl⟩:=h;rw[Qp]
 have:=QJ p u
 have:=QJ q u
 omega
theorem Qmx {p q:List Int}{r u at_:Int}{c:Cn}(_hu:1≤u∧u≤3)(h1:(cnt p).of u<at_)(h2:at_<(cnt (p++[r])).of u):¬ Pl u at_ (p++r :: q) c:=by
 rintro⟨p',q',e1,e2,-⟩;have e:p++r :: q=(p++[r])++q:=by simp
 rcases XK e1 with ⟨d,h3,h4⟩ | ⟨d,h3,h4⟩
 ·cases d with
  | nil=>simp at h3;subst h3;omega
  | cons y d =>
   simp only[Wap,List.cons.injEq] at h4;obtain⟨rfl,h5⟩:=h4
   have:p'=(p++[r])++d:=by rw[h3];simp
   rw[this,Qp] at e2
   have:=QJ d u
   omega
 ·rw[h3,Qp] at h1
  have:=QJ d u
  omega
def Ln (n:Int)(R:List Int)(c:Cn):Prop:=∃ p q,R=p++q∧(cnt p).l=n∧c=cnt p∧(p=[]∨∃ p',p=p'++[10])
theorem Ln.unique {n:Int}{R:List Int}{c c':Cn}(h:Ln n R c)(h':Ln n R c'):c=c':=by
 obtain⟨p,q,e1,e2,rfl,e3⟩:=h;obtain⟨p',q',e1',e2',rfl,e3'⟩:=h'
 suffices hh:p=p' by rw[hh]
 have key:∀ (p d:List Int),(cnt (p++d)).l=(cnt p).l→(p++d=[]∨∃ p',p++d=p'++[10])→d=[]:=by
  intro p d h1 h2;rcases List.eq_nil_or_concat d with rfl | ⟨d',y,rfl⟩
  ·rfl
  ·rcases h2 with h2 | ⟨p',h2⟩
   ·simp at h2
   ·exfalso
    have e:p++(d'++[y])=(p++d')++[y]:=by simp
    simp only[List.concat_eq_append] at h1 h2;rw[e] at h2;have hy:=(List.append_inj' h2 rfl).2;simp at hy;subst hy;rw[QZ,QZ,XJ] at h1
    have:=Yb d'
    simp at h1;omega
 rcases XK (e1.symm.trans e1') with ⟨d,h1,h2⟩ | ⟨d,h1,h2⟩
 ·have:=key p d (by rw[← h1,e2,e2']) (by rw[← h1];exact e3')
  subst this;simpa using h1.symm
 ·have:=key p' d (by rw[← h1,e2,e2']) (by rw[← h1];exact e3)
  subst this;simpa using h1
end
section
open Go.RowKit
def Qvp (rs:List Int)(rest:U.Bs)(w:World)(e:Ending)(w':World):Prop :=
 Below w.heap.size w w'∧(rest=[]→∃ v,e=.returned (.tuple #[v,.nilIface])∧Sl w' 1 v rs.length (Qs rs)∧Frs w.heap.size v) ∧
  (rest≠[]→∃ g,e=.returned (.tuple #[.slice none 0 0,atV g])∧QU w' g 3 (U.off rs rs.length))
def Qvq (rs:List Int)(rest:U.Bs)(w:World)(e:Ending)(w':World):Prop :=
 Below w.heap.size w w'∧(rest=[]→∃ v,e=.returned (.tuple #[v,.nilIface])∧Sl w' 1 v (U.hvs rs).length (Qt (U.hvs rs))∧Frs w.heap.size v) ∧
  (rest≠[]→∃ g,e=.returned (.tuple #[.slice none 0 0,atV g])∧QU w' g 3 (U.off rs rs.length))
section
attribute [local go_sem] Xf
theorem Qvr {s:U.Bs}{rs:List Int}{rest:U.Bs}(h:U.Sp s rs rest)(w:World)(hs:s.length≤35184372087808) :
  Calls prog 237 #[.string ⟨s.toArray⟩] w (Qvp rs rest w):=by
 have H:=Hm h;have hlen:=h.length;have hll:=U.len_le_off rs;clear h;have HL:=Hm hlen;have hle:U.off rs rs.length≤s.length:=by omega
 clear hlen;have hsz:s.length≤35184372087808:=hs;clear hs;go_enter func237,ntmps237
 go_wp2_with fail
 go_loopw [2,3,4,5] (fun n e v i wr=>n=.slice none 0 0∧e=.nilIface∧∃ k:Nat,k≤rs.length∧i=.int .i64 (U.off rs k)∧wr.ownsRow w.heap.size 21 1 v k (Qs (rs.take k))∧Below w.heap.size w wr) (fun _ _ _ i _=>s.length-(intOf i).toNat)
 case atStart=>exact⟨rfl,rfl,0,by omega,rfl,World.ownsRow_nil _ _ _ _,Wac _ _⟩
 case round =>
  obtain⟨rfl,rfl,k,hk,rfl,hown,hbel⟩:=hrel;have hok:U.off rs k≤U.off rs rs.length:=U.off_le hk
  by_cases hlt:k<rs.length
  ·have hol:U.off rs k<U.off rs rs.length:=U.off_lt hlt;have HN:=Hm (H.o.next_at hlt);have HO:=Hm (U.off_succ hlt);have hw1:=U.wid_pos rs[k];have hw2:=U.wid_le rs[k];generalize hr:rs[k]=r at *;have HR:=Hm hr;clear hr;have hlt':U.off rs k<s.length:=by omega
   have hn0:((U.wid r:Int) == 0)=false:=by rw[Waf];omega
   have hb0:=hbel.size;have HOS:=Hm hown;clear hown;go_wp2_with (first | (go_at_call 181;refine (next_at HN.o _ (by rw[War];omega)).mono ?_;rintro e w' ⟨rfl,rfl⟩) | (at_builtin;refine Yw Qjw #[.int .i32 r] HOS.o rfl rfl rfl rfl rfl (YI rfl) (by unfold maxLen;omega) (by omega) hb0 ?_;intro v1 w1 hown1 hbel1 _))
   have e1:Qs (rs.take (k+1))=Qs (rs.take k)++#[Value.int .i32 r].toList:=by
    rw[Wag hlt,Qs,Wbo,← HR.o];rfl
   rw[← e1] at hown1;refine⟨⟨rfl,rfl,k+1,by omega,by rw[HO.o];go_num,hown1,hbel.trans hbel1⟩,?_⟩;simp only[intOf];omega
  ·obtain rfl:k=rs.length:=by omega
   have hfin:Sl wr 1 u4 rs.length (Qs rs):=by
    have:=Sl.of_own hown
    rwa [Wbe] at this
   have hfrs:=Hm (Frs.of_own hown);clear hown
   by_cases hr:rest=[]
   ·subst hr;have hge:¬ U.off rs rs.length<s.length:=by have:=HL.o;simp at this;omega
    clear hlt;go_wp2_with fail;go_ret2
    exact⟨hbel,fun _=>⟨u4,rfl,hfin,hfrs.out⟩,fun h=>absurd rfl h⟩
   ·have hlt':U.off rs rs.length<s.length:=by
     have:=HL.o
     have h2:0<rest.length:=Wax.2 hr;omega
    have HN:=Hm H.o.next_end;have HR:=Hm hr;have hb0:=hbel.size;clear hlt hfin hr;go_wp2_with (go_at_call 181;refine (next_at HN.o _ (by rw[War];omega)).mono ?_;rintro e w' ⟨rfl,rfl⟩)
    go_ret2
    exact⟨hbel.alloc (by omega) _,fun h=>absurd h HR.o,fun _=>⟨wr.heap.size,rfl,Wbc wr _⟩⟩
end
theorem Qvs {s:U.Bs}{rs:List Int}{rest:U.Bs}(h:U.Sp s rs rest)(w:World)(hs:s.length≤35184372087808) :
  Calls prog 236 #[.string ⟨s.toArray⟩] w (Qvq rs rest w):=by
 by_cases hr:rest=[]
 ·have hlen:=h.length;have hll:=U.len_le_off rs;have hrl:rs.length≤35184372087808:=by omega
  have H:=Hm h;have HR:=Hm hr;clear hlen hll;go_enter func236,ntmps236
  go_wp2_with (go_at_call 237;refine (JI h _ hs).mono ?_;rintro e w1 ⟨hb1,hok,_⟩;obtain⟨v,rfl,hsl⟩:=hok hr;have HSL:=Hm hsl;obtain⟨A,c,rfl,_⟩:=hsl)
  have HB1:=Hm hb1;clear hok hb1 h hr hs
  go_loopw [6,19] (fun b i wr=>∃ k:Nat,k≤rs.length∧i=.int .i64 k∧wr.ownsRow w1.heap.size 245 1 b (U.hoff rs k) (Qt (U.hvs (rs.take k)))∧Below w1.heap.size w1 wr) (fun _ i _=>rs.length-(intOf i).toNat)
  case atStart=>exact⟨0,by omega,rfl,World.ownsRow_nil _ _ _ _,Wac _ _⟩
  case round =>
   obtain⟨k,hk,rfl,hown,hbel⟩:=hrel;have hb0:=hbel.size;have HB:=Hm hbel
   by_cases hkn:k<rs.length
   ·obtain⟨ad,c',u,hv,_,hu,hc⟩:=(HSL.o.below hbel).at_ hkn
    cases hv
    have hu2:u=.int .i32 rs[k]:=by
     unfold Qs at hu;rw[Wav,Waj hkn] at hu;simpa using hu.symm
    subst hu2;have hrr:=U.right_iff.1 (H.o.all _ (Wau hkn));have HHO:=Hm (U.hoff_succ hkn);have HTK:Hd (U.hvs (rs.take (k+1))=U.hvs (rs.take k)++U.hv rs[k]):=⟨by rw[Wag hkn,U.hvs_append,U.hvs_cons,U.hvs_nil,Wam]⟩
    have hol:U.hoff rs k≤2*k:=by
     have:=U.hvs_len_le (rs.take k)
     rw[Wbb] at this;unfold U.hoff;omega
    generalize rs[k]=r at hrr hc HHO HTK;have hr0:0≤r:=by omega
    have hr1:r≤1114111:=by omega
    have HOW:=Hm hown;clear hrr hown hbel hu
    by_cases hsm:r<65536
    ·have e1:U.hv r=[r]:=by unfold U.hv;rw[if_pos hsm]
     have e2:U.hwid r=1:=by unfold U.hwid;rw[if_pos hsm]
     have HE:=Hm (Wao e1 e2);clear e1 e2;go_wp2_with (at_builtin;refine Yw Qba #[.int .u16 r] HOW.o rfl rfl rfl rfl rfl (YI rfl) (by unfold maxLen;omega) (by omega) hb0 ?_;intro v1 w2 hown1 hbel1 _)
     refine⟨⟨k+1,by omega,by go_num,?_,HB.o.trans hbel1⟩,?_⟩
     ·rw[HHO.o,HTK.o,HE.o.1,HE.o.2,Qbb];exact hown1
     ·simp only[intOf];omega
    ·have e1:U.hv r=[55296+(r-65536) / 1024,56320+(r-65536) % 1024]:=by unfold U.hv;rw[if_neg hsm]
     have e2:U.hwid r=2:=by unfold U.hwid;rw[if_neg hsm]
     have HE:=Hm (Wao e1 e2);have o1:=Qbc 55296 ((r-65536) / 1024) (.inl rfl) (by omega) (by omega);have o2:=Qd0 (r-65536) (by omega) (by omega);have o3:=Qbc 56320 ((r-65536) % 1024) (.inr rfl) (by omega) (by omega);clear e1 e2;go_wp2_with (at_builtin;refine Yw Qba #[.int .u16 (55296+(r-65536) / 1024),.int .u16 (56320+(r-65536) % 1024)] HOW.o rfl rfl rfl rfl rfl (Qdf rfl rfl) (by unfold maxLen;omega) (by omega) hb0 ?_;intro v1 w2 hown1 hbel1 _)
     refine⟨⟨k+1,by omega,by go_num,?_,HB.o.trans hbel1⟩,?_⟩
     ·rw[HHO.o,HTK.o,HE.o.1,HE.o.2,Qbb];exact hown1
     ·simp only[intOf];omega
   ·obtain rfl:k=rs.length:=by omega
    rw[Wbe,U.hoff_full] at hown;have hsl:=Sl.of_own hown;have HS2:=Hm hsl;have hfrs:=Hm ((Frs.of_own hown).mono HB1.o.size);clear hown hbel hsl;go_wp2_with fail;go_ret2
    exact⟨HB1.o.trans (HB.o.mono HB1.o.size),fun _=>⟨_,rfl,HS2.o,hfrs.out⟩,fun h=>absurd HR.o h⟩
 ·go_enter func236,ntmps236
  go_wp2_with (go_at_call 237;refine (JI h _ hs).mono ?_;rintro e w1 ⟨hb1,_,hbad⟩;obtain⟨g,rfl,hat⟩:=hbad hr)
  go_ret2
  exact⟨hb1,fun h=>absurd h hr,fun _=>⟨g,rfl,hat⟩⟩
end
end Go.Proofs.YtckkgdmkfbkaoaaGreatDoor
