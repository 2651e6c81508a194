/- Texts of the proof. -/
import Derived.Test.YtckkgdmkfbkaoaaGreatDoorM28
import Derived.Deep.LoopGhost
namespace Go.Proofs.YtckkgdmkfbkaoaaGreatDoor
open Go.Proofs.Tryz
set_option maxRecDepth 100000
set_option maxHeartbeats 32000000
set_option linter.all false
open Go.RowKit
theorem Sl.tail {w:World}{l:List PT}{p:PT}{b o n c:Nat}(h:Sl w 3 (.slice (some ⟨b,o,none⟩) (n+1) c) (n+1) (opv (p :: l))):n+1≤c ∧
  (c=n+1→n=0→Sl w 3 (.slice (some ⟨b,o,none⟩) 0 0) 0 (opv l))∧(Sl w 3 (.slice (some ⟨b,o+3,none⟩) n (c-1)) n (opv l)):=by
 obtain⟨A,c',hv,h2,h3,h4,h4',h5⟩:=h
 cases hv
 obtain⟨ad,had,hb,hc⟩:=h5 (by omega)
 cases had
 have hl:(opv l).length=n*3:=by
  have:opv (p :: l)=p.cells++opv l:=by simp[opv]
  rw[this,Wad] at h2;simp at h2;omega
 refine⟨h3,?_,?_⟩
 ·rintro _ rfl
  exact⟨_,_,rfl,hl,Wak _,by unfold maxLen;omega,(fun h=>nomatch h),fun h=>absurd h (by omega)⟩
 ·refine⟨_,_,rfl,hl,by omega,by omega,(fun h=>nomatch h),fun _=>⟨_,rfl,hb,fun j u hu=>?_⟩⟩
  have:=hc (3+j) u (by
   have:opv (p :: l)=p.cells++opv l:=by simp[opv]
   rw[this,Way (by simp)];simpa using hu)
  rw[Qz] at this ⊢
  rwa [Nat.add_assoc]
theorem Sl.head {w:World}{l:List PT}{p:PT}{v:Value}{n:Nat}(h:Sl w 3 v n (opv (p :: l))):∃ b o m c,n=m+1∧v=.slice (some ⟨b,o,none⟩) (m+1) c∧b<w.heap.size∧w.cell? ⟨b,o,none⟩=some (.int .i64 p.keep)∧w.cell? ⟨b,o+1,none⟩=some (.int .i64 p.drop)∧w.cell? ⟨b,o+2,none⟩=some (.string ⟨p.put.toArray⟩):=by
 have hl:=h.len;rw[Zw,Wan] at hl;obtain⟨m,rfl⟩:∃ m,n=m+1:=⟨n-1,by omega⟩;obtain⟨b,o,c,hv,hb,c0,c1,c2⟩:=h.part (k:=0) (by omega) (by simp);simp only[Nat.zero_mul,Nat.add_zero,List.getElem_cons_zero] at c0 c1 c2
 exact⟨b,o,m,c,rfl,hv,hb,c0,c1,c2⟩
section
variable {w w':World}{g:Nat}{t:TypeId}
theorem Blk.set3 {F:World→Prop}{a b c x y z:Value}(h:Blk w g t #[a,b,c])
  (k:∀ w3,Blk w3 g t #[x,y,z]→Only (fun j=>j=g) w w3→w3.heap.size=w.heap.size→F w3) :
  F (((w.setCell ⟨g,0,none⟩ x).setCell ⟨g,1,none⟩ y).setCell ⟨g,2,none⟩ z):=by
 refine k _ (((h.set_ 0 x).set_ 1 y).set_ 2 z) ?_ (by simp);exact (((Only.refl (fun j=>j=g) w).setCell (p:=⟨g,0,none⟩) (.inl rfl) x).setCell (p:=⟨g,1,none⟩) (.inl rfl) y).setCell (p:=⟨g,2,none⟩) (.inl rfl) z
end
structure Tp_ (w:World)(g:Nat)(v:Value)(n:Nat)(l:List PT)(a:Nat):Prop where
 blk:Blk w g 388 #[v,.int .i64 a]
 sl:Sl w 3 v n (opv l)
 ok:Tok l a
def Tbd (l:List PT):Prop:=∀ p∈l,p.put.length≤1099511627776∧p.keep≤4611686018427387903∧p.drop≤4611686018427387903
def Qbp (g:Nat)(v:Value)(n:Nat)(l:List PT)(a:Nat)(w:World)(e:Ending)(w':World):Prop :=
 ∃ (v2:Value) (n2:Nat) (l2:List PT) (a2:Nat) (p:PT) (s:Bool),e=.returned (.tuple #[p.v,.bool s])∧Tp_ w' g v2 n2 l2 a2∧tape l2 a2=tape l a∧Nx (tape l a) p s ∧
  (∀ m,m≤p.size→Tok l2 (a2+m))∧(∀ q∈l2,q∈l)∧(∀ W,Sl W 3 v n (opv l)→Sl W 3 v2 n2 (opv l2))∧Only (fun k=>k=g) w w'
theorem JJ {w:World}{g b o n c:Nat}{l:List PT}{x y:Value}{t:TypeId}(hs:Sl w 3 (.slice (some ⟨b,o,none⟩) n c) n (opv l))(hn:0<n)(hb:Blk w g t #[x,y]):b≠g:=by
 rintro rfl
 cases l with
 | nil=>have:=hs.len;simp[opv] at this;omega
 | cons p l =>
  obtain⟨b',o',m,c',rfl,hv,_,_,_,c2⟩:=hs.head
  cases hv
  rw[hb.cell (o+2)] at c2;simp at c2
theorem Qbq {w w':World}{g n:Nat}{l:List PT}{v x y:Value}{t:TypeId}(hs:Sl w 3 v n (opv l))(hb:Blk w g t #[x,y])(ho:Only (fun k=>k=g) w w'):Sl w' 3 v n (opv l):=by
 refine hs.only ho ?_;rintro⟨b,o,p⟩ c rfl hn rfl
 cases l with
 | nil=>have:=hs.len;simp[opv] at this;omega
 | cons q l =>
  obtain⟨b',o',m,c',rfl,hv,_⟩:=hs.head
  cases hv
  exact JJ hs (by omega) hb rfl
theorem Qka {p:PT}(h:p.arg){n:Nat}(hn:n≤p.size):(p.left n).size+n=p.size:=by
 unfold PT.size at hn ⊢;rw[PT.left_exp h hn,War];omega
theorem Qbr {w W:World}{g n n2 a a2:Nat}{l l2:List PT}{p:PT}{v v2:Value}(h0:Tp_ w g v n l a)(hW:Blk W g 388 #[v2,.int .i64 a2])(hs:Sl w 3 v2 n2 (opv (p :: l2)))(hok:Tok (p :: l2) a2)(hlt:a2<p.size)
  (htp:tape (p :: l2) a2=tape l a) (hm:∀ q∈p :: l2,q∈l) (htr:∀ W,Sl W 3 v n (opv l)→Sl W 3 v2 n2 (opv (p :: l2))) (ho:Only (fun k=>k=g) w W):Qbp g v n l a w (.returned (.tuple #[(p.left a2).v,.bool true])) W:=by
 have ha:=hok.1 p (by simp);refine⟨v2,n2,p :: l2,a2,p.left a2,true,rfl,⟨hW,Qbq hs h0.blk ho,hok⟩,htp,.inl ⟨rfl,PT.left_arg ha hlt,Qi l2,?_⟩,fun m hm=>⟨hok.1,?_⟩,hm,htr,ho⟩
 ·rw[← htp,Qnw (by omega) ha]
 ·have:=Qka ha (n:=a2) (by omega)
  dsimp only;omega
theorem Qkb {w W:World}{g n n2 a a2:Nat}{l:List PT}{v v2:Value}(h0:Tp_ w g v n l a)(hW:Blk W g 388 #[v2,.int .i64 a2])(hs:Sl w 3 v2 n2 (opv []))(hok:Tok [] a2)
  (htp:tape [] a2=tape l a) (htr:∀ W,Sl W 3 v n (opv l)→Sl W 3 v2 n2 (opv [])) (ho:Only (fun k=>k=g) w W):Qbp g v n l a w (.returned (.tuple #[(⟨0,0,[]⟩:PT).v,.bool false])) W:=by
 refine⟨v2,n2,[],a2,⟨0,0,[]⟩,false,rfl,⟨hW,Qbq hs h0.blk ho,hok⟩,htp,.inr ⟨rfl,rfl,?_⟩,fun m hm=>⟨hok.1,?_⟩,fun q hq=>by simp at hq,htr,ho⟩
 ·rw[← htp];unfold tape;simp[Qi]
 ·have h1:=hok.2;have h2:(⟨0,0,[]⟩:PT).size=0:=by unfold PT.size PT.exp;simp
  dsimp only at h1 ⊢;omega
structure NR (w wr:World)(g:Nat)(v:Value)(n:Nat)(l:List PT)(a:Nat)(v2:Value)(n2:Nat)(l2:List PT)(a2:Nat):Prop where
 blk:Blk wr g 388 #[v2,.int .i64 a2]
 sl:Sl w 3 v2 n2 (opv l2)
 ok:Tok l2 a2
 tp:tape l2 a2=tape l a
 mem:∀ q∈l2,q∈l
 tr:∀ W,Sl W 3 v n (opv l)→Sl W 3 v2 n2 (opv l2)
 res:Blk wr w.heap.size 117 #[.int .i64 0,.int .i64 0,.string ⟨#[]⟩]
 only:Only (fun k=>k=g) w wr
theorem NR.drewN {w wr:World}{g a n n2 a2:Nat}{l l2:List PT}{v v2:Value}(h:NR w wr g v n l a v2 n2 l2 a2)(m:Nat):NR w (wr.drewN m) g v n l a v2 n2 l2 a2 :=
 ⟨h.blk,h.sl,h.ok,h.tp,h.mem,h.tr,h.res,h.only.drewN m⟩
theorem NR.alloc {w wr:World}{g a n n2 a2:Nat}{l l2:List PT}{v v2:Value}(h:NR w wr g v n l a v2 n2 l2 a2)(o:Obj):NR w (wr.alloc o) g v n l a v2 n2 l2 a2 :=
 ⟨h.blk.alloc o,h.sl,h.ok,h.tp,h.mem,h.tr,h.res.alloc o,h.only.alloc o⟩
theorem NR.pass {w wr:World}{g a n n2 a2:Nat}{l l2:List PT}{p:PT}{v v2 v3:Value}{n3:Nat}(h:NR w wr g v n l a v2 n2 (p :: l2) a2)(he:a2=p.size)(hs:∀ W,Sl W 3 v2 n2 (opv (p :: l2))→Sl W 3 v3 n3 (opv l2))(hg:g<w.heap.size) :
  NR w ((wr.setCell ⟨g,0,none⟩ v3).setCell ⟨g,1,none⟩ (.int .i64 0)) g v n l a v3 n3 l2 0:=by
 refine⟨(h.blk.set_ 0 v3).set_ 1 _,hs _ h.sl,⟨fun q hq=>h.ok.1 q (by simp[hq]),?_⟩,?_,fun q hq=>h.mem q (by simp[hq]),fun W hW=>hs W (h.tr W hW),?_,?_⟩
 ·cases l2 with
  | nil=>rfl
  | cons=>exact Nat.zero_le _
 ·rw[← h.tp,Qnv he]
 ·exact (h.res.far (p:=⟨g,0,none⟩) (by simp;omega) _).far (p:=⟨g,1,none⟩) (by simp;omega) _
 ·exact (h.only.setCell (p:=⟨g,0,none⟩) (.inl rfl) _).setCell (p:=⟨g,1,none⟩) (.inl rfl) _
theorem NR.laid {F:World→Prop}{w wr:World}{g a n n2 a2:Nat}{l l2:List PT}{v v2 x y z:Value}(h:NR w wr g v n l a v2 n2 l2 a2)(hg:g<w.heap.size)
  (k:∀ X,Blk X w.heap.size 117 #[x,y,z]→Blk X g 388 #[v2,.int .i64 a2]→Only (fun k=>k=g) w X→F X) :
  F (((wr.setCell ⟨w.heap.size,0,none⟩ x).setCell ⟨w.heap.size,1,none⟩ y).setCell ⟨w.heap.size,2,none⟩ z):=by
 refine k _ (((h.res.set_ 0 x).set_ 1 y).set_ 2 z) ?_ ?_
 ·exact ((h.blk.far (p:=⟨w.heap.size,0,none⟩) (by simp;omega) x).far (p:=⟨w.heap.size,1,none⟩) (by simp;omega) y).far (p:=⟨w.heap.size,2,none⟩) (by simp;omega) z
 ·exact ((h.only.setCell (p:=⟨w.heap.size,0,none⟩) (.inr (Wak _)) x).setCell (p:=⟨w.heap.size,1,none⟩) (.inr (Wak _)) y).setCell (p:=⟨w.heap.size,2,none⟩) (.inr (Wak _)) z
section
attribute [local go_sem] Qz Xf
theorem JK {g n a:Nat}{l:List PT}{v:Value}{w:World}(ht:Tp_ w g v n l a)(hb:Tbd l) :
  Calls prog 274 #[.pointer (some ⟨g,0,none⟩)] w (Qbp g v n l a w):=by
 have HT:=Hm ht;have HTB:=Hm hb;have hgl:=ht.blk.lt;clear ht hb;go_enter func274,ntmps274
 go_wp2_with fail
 go_loopg [4] n (fun gk _ wr=>∃ (v2:Value) (n2:Nat) (l2:List PT) (a2:Nat),n2=gk∧NR w wr g v n l a v2 n2 l2 a2)
 case atStart=>exact⟨_,_,_,_,rfl,HT.o.blk.alloc _,HT.o.sl,HT.o.ok,rfl,fun _ h=>h,fun _ h=>h,Blk.new _ _ _,(Only.refl _ _).alloc _⟩
 case round =>
  obtain⟨v2,n2,l2,a2,rfl,hnr⟩:=hrel;have HNR:=Hm hnr;have k0:=hnr.blk.cell 0;have k1:=hnr.blk.cell 1;have kf:=hnr.blk.frozen;have rf:=hnr.res.frozen;have r0:=hnr.res.cell 0;have r1:=hnr.res.cell 1;have r2:=hnr.res.cell 2;simp only[Wab,Waa,Wae] at k0 k1 r0 r1 r2;have hgl2:=hnr.blk.lt;have hrl:=hnr.res.lt;have hne:g≠w.heap.size:=by omega
  have hne':=Ne.symm hne;clear hnr
  cases l2 with
  | nil =>
   obtain rfl:n2=0:=by have:=HNR.o.sl.len;simp[opv] at this;omega
   obtain⟨A,c,hv,-⟩:=HNR.o.sl;subst hv;have hok:=HNR.o.ok.2;dsimp only at hok;subst hok;go_wp2_with fail;refine HNR.o.res.set3 (F:=fun W=>bodyPost _ _ _ Exit.ret _ W) ?_;intro w3 hC3 hB3 _;have g0:=hC3.cell 0;have g1:=hC3.cell 1;have g2:=hC3.cell 2;simp only[Wab,Waa,Wae] at g0 g1 g2;refine Waz (v:=.tuple #[(⟨0,0,[]⟩:PT).v,.bool false]) (by simp[results,results274,go_sem,g0,g1,g2]) rfl ?_;exact Qkb HT.o (HNR.o.blk.only hB3 hne) HNR.o.sl HNR.o.ok HNR.o.tp HNR.o.tr (HNR.o.only.step hB3 (fun i hi e=>absurd e (by omega)))
  | cons p l2 =>
   obtain⟨b,o,m,c,rfl,hv,hbl,-⟩:=HNR.o.sl.head;subst hv;have hbg:=JJ HNR.o.sl (by omega) HT.o.blk;have hslr:=Qbq HNR.o.sl HT.o.blk HNR.o.only;obtain⟨b',o',m',c',hm',hv',hbl2,c0,c1,c2⟩:=hslr.head
   cases hv'
   have hTB:=HTB.o p (HNR.o.mem p (by simp));have harg:=HNR.o.ok.1 p (by simp);have hok:a2≤p.size:=HNR.o.ok.2;obtain⟨t1,t2,t3⟩:=hTB;have hcm:=HNR.o.sl.tail.1;have hcl:c≤maxLen:=by obtain⟨_,c',hv,_,_,h,_⟩:=HNR.o.sl;cases hv;exact h
   unfold maxLen at hcl;clear hslr hm';rcases harg.cases with ⟨q,hq,rfl⟩ | ⟨k,hk,rfl⟩ | ⟨k,hk,rfl⟩
   ·have hq':(q == [])=false:=by rw[Waf];exact hq
    rw[size_put] at hok;dsimp only at t1 t2 t3 c0 c1 c2;clear harg
    by_cases hlt:a2<q.length
    ·have HV:Hd ((PT.mk 0 0 q).left a2=⟨0,0,q.drop a2⟩):=⟨by unfold PT.left;rw[if_pos hq]⟩;have HSZ:Hd (a2<(PT.mk 0 0 q).size):=⟨by rw[size_put];exact hlt⟩;go_wp2_with fail;go_quiet (fail)
     go_wp2_with fail;go_region
     go_wp2_with fail;refine NR.laid (F:=fun W=>bodyPost _ _ _ Exit.ret _ W) (by repeat (first | exact HNR.o | apply NR.drewN | apply NR.alloc)) hgl ?_;intro X x1 x2 x3;have g0:=x1.cell 0;have g1:=x1.cell 1;have g2:=x1.cell 2;simp only[Wab,Waa,Wae] at g0 g1 g2;refine Waz (v:=.tuple #[.agg #[.int .i64 0,.int .i64 0,.string ⟨(q.drop a2).toArray⟩],.bool true]) (by simp[results,results274,go_sem,g0,g1,g2]) rfl ?_
     have:=Qbr (W:=X) HT.o x2 HNR.o.sl HNR.o.ok HSZ.o HNR.o.tp HNR.o.mem HNR.o.tr x3
     rw[HV.o] at this;exact this
    ·have HSZ:Hd (a2=(PT.mk 0 0 q).size):=⟨by rw[size_put];omega⟩
     by_cases hc:c=1
     ·have hm0:m=0:=by omega
      subst hm0 hc;go_wp2_with fail;go_quiet (fail)
      go_wp2_with fail
      go_roundg 0
      case measure=>omega
      case rel=>exact⟨_,_,_,_,rfl,NR.pass (by repeat (first | exact HNR.o | apply NR.drewN | apply NR.alloc)) HSZ.o (fun W h=>h.tail.2.1 rfl rfl) hgl⟩
     ·go_wp2_with fail;go_quiet (fail)
      go_wp2_with fail
      go_roundg m
      case measure=>omega
      case rel=>exact⟨_,_,_,_,rfl,NR.pass (by repeat (first | exact HNR.o | apply NR.drewN | apply NR.alloc)) HSZ.o (fun W h=>h.tail.2.2) hgl⟩
   ·rw[XL] at hok;dsimp only at t1 t2 t3 c0 c1 c2;clear harg
    by_cases hlt:a2<k
    ·have HV:Hd ((PT.mk 0 k []).left a2=⟨0,(k:Int)-a2,[]⟩):=⟨by unfold PT.left;rw[if_neg (by simp),if_neg (Int.lt_irrefl 0)]⟩;have HSZ:Hd (a2<(PT.mk 0 k []).size):=⟨by rw[XL];exact hlt⟩;go_wp2_with fail;go_quiet (fail)
     go_wp2_with fail;go_quiet (fail)
     go_wp2_with fail;go_region
     go_wp2_with fail;refine NR.laid (F:=fun W=>bodyPost _ _ _ Exit.ret _ W) (by repeat (first | exact HNR.o | apply NR.drewN | apply NR.alloc)) hgl ?_;intro X x1 x2 x3;have g0:=x1.cell 0;have g1:=x1.cell 1;have g2:=x1.cell 2;simp only[Wab,Waa,Wae] at g0 g1 g2;refine Waz (v:=.tuple #[.agg #[.int .i64 0,.int .i64 ((k:Int)-a2),.string ⟨#[]⟩],.bool true]) (by simp[results,results274,go_sem,g0,g1,g2]) rfl ?_
     have:=Qbr (W:=X) HT.o x2 HNR.o.sl HNR.o.ok HSZ.o HNR.o.tp HNR.o.mem HNR.o.tr x3
     rw[HV.o] at this;exact this
    ·have HSZ:Hd (a2=(PT.mk 0 k []).size):=⟨by rw[XL];omega⟩
     by_cases hc:c=1
     ·have hm0:m=0:=by omega
      subst hm0 hc;go_wp2_with fail;go_quiet (fail)
      go_wp2_with fail;go_quiet (fail)
      go_wp2_with fail
      go_roundg 0
      case measure=>omega
      case rel=>exact⟨_,_,_,_,rfl,NR.pass (by repeat (first | exact HNR.o | apply NR.drewN | apply NR.alloc)) HSZ.o (fun W h=>h.tail.2.1 rfl rfl) hgl⟩
     ·go_wp2_with fail;go_quiet (fail)
      go_wp2_with fail;go_quiet (fail)
      go_wp2_with fail
      go_roundg m
      case measure=>omega
      case rel=>exact⟨_,_,_,_,rfl,NR.pass (by repeat (first | exact HNR.o | apply NR.drewN | apply NR.alloc)) HSZ.o (fun W h=>h.tail.2.2) hgl⟩
   ·rw[XM] at hok;dsimp only at t1 t2 t3 c0 c1 c2;clear harg
    by_cases hlt:a2<k
    ·have HV:Hd ((PT.mk k 0 []).left a2=⟨(k:Int)-a2,0,[]⟩):=⟨by unfold PT.left;rw[if_neg (by simp),if_pos (by dsimp only;omega)]⟩;have HSZ:Hd (a2<(PT.mk k 0 []).size):=⟨by rw[XM];exact hlt⟩;go_wp2_with fail;go_quiet (fail)
     go_wp2_with fail;go_region
     go_wp2_with fail;refine NR.laid (F:=fun W=>bodyPost _ _ _ Exit.ret _ W) (by repeat (first | exact HNR.o | apply NR.drewN | apply NR.alloc)) hgl ?_;intro X x1 x2 x3;have g0:=x1.cell 0;have g1:=x1.cell 1;have g2:=x1.cell 2;simp only[Wab,Waa,Wae] at g0 g1 g2;refine Waz (v:=.tuple #[.agg #[.int .i64 ((k:Int)-a2),.int .i64 0,.string ⟨#[]⟩],.bool true]) (by simp[results,results274,go_sem,g0,g1,g2]) rfl ?_
     have:=Qbr (W:=X) HT.o x2 HNR.o.sl HNR.o.ok HSZ.o HNR.o.tp HNR.o.mem HNR.o.tr x3
     rw[HV.o] at this;exact this
    ·have HSZ:Hd (a2=(PT.mk k 0 []).size):=⟨by rw[XM];omega⟩
     by_cases hc:c=1
     ·have hm0:m=0:=by omega
      subst hm0 hc;go_wp2_with fail;go_quiet (fail)
      go_wp2_with fail;go_quiet (fail)
      go_wp2_with fail
      go_roundg 0
      case measure=>omega
      case rel=>exact⟨_,_,_,_,rfl,NR.pass (by repeat (first | exact HNR.o | apply NR.drewN | apply NR.alloc)) HSZ.o (fun W h=>h.tail.2.1 rfl rfl) hgl⟩
     ·go_wp2_with fail;go_quiet (fail)
      go_wp2_with fail;go_quiet (fail)
      go_wp2_with fail
      go_roundg m
      case measure=>omega
      case rel=>exact⟨_,_,_,_,rfl,NR.pass (by repeat (first | exact HNR.o | apply NR.drewN | apply NR.alloc)) HSZ.o (fun W h=>h.tail.2.2) hgl⟩
end
end Go.Proofs.YtckkgdmkfbkaoaaGreatDoor
