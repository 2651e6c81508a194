/- Texts of the proof. -/
import Derived.Test.YtckkgdmkfbkaoaaGreatDoorM25
import Derived.Deep.DeepCutAuto
namespace Go.Proofs.YtckkgdmkfbkaoaaGreatDoor
open Go.Proofs.Tryz
set_option maxRecDepth 100000
set_option maxHeartbeats 32000000
set_option linter.all false
open Go.RowKit
theorem QK:El prog 115 117 3 32:=El.mk' underlying115 (by kernel_rfl) (by decide)
def FlS (bp bo bd:Nat)(v:Value)(k:Nat):Prop:=k=bp∨k=bo∨k=bd∨v.ownBlock=some k
def Qoa (base bp bo bd:Nat)(v:Value)(out:List PT)(put:U.Bs)(drop:Int)(w:World)(e:Ending)(w':World):Prop :=
 e=.returned (.tuple #[])∧∃ v',Blk w' bo 115 #[v']∧w'.ownsRow base 117 3 v' (out++Qy put drop).length (opv (out++Qy put drop)) ∧
  Blk w' bp 9 #[.string ⟨#[]⟩]∧Blk w' bd 3 #[.int .i64 0]∧Only (FlS bp bo bd v) w w'
theorem Qf7 (b:U.Bs):opv [⟨0,0,b⟩]=(#[Value.int .i64 0,.int .i64 0,.string ⟨b.toArray⟩]:Array Value).toList:=by rw[YV]
theorem Qf8 (d:Int):opv [⟨0,d,[]⟩]=(#[Value.int .i64 0,.int .i64 d,.string ⟨#[]⟩]:Array Value).toList:=by rw[YV]
section
variable {base bp bo bd:Nat}{v v1:Value}{out:List PT}{put:U.Bs}{drop:Int}{w w1:World}
theorem own_ne {n:Nat}{xs:List Value}{b:Nat}(hown:w1.ownsRow base 117 3 v1 n xs)(h:b<base):v1.ownBlock≠some b:=fun e=>by have:=(hown.lt b e).1;omega
theorem Qcm {n:Nat}{xs:List Value}{s d x y z:Value}(hb:bp<base∧bo<base∧bd<base)(hne:bp≠bo∧bp≠bd∧bo≠bd)
  (hP:Blk w1 bp 9 #[x]) (hO:Blk w1 bo 115 #[y]) (hD:Blk w1 bd 3 #[z]) (hown:w1.ownsRow base 117 3 v1 n xs) :
  ∀ w4,w4=((w1.setCell ⟨bo,0,none⟩ v1).setCell ⟨bp,0,none⟩ s).setCell ⟨bd,0,none⟩ d →
   Blk w4 bo 115 #[v1]∧w4.ownsRow base 117 3 v1 n xs∧Blk w4 bp 9 #[s]∧Blk w4 bd 3 #[d]∧Only (FlS bp bo bd v) w1 w4:=by
 rintro w4 rfl;obtain⟨b1,b2,b3⟩:=hb;obtain⟨n1,n2,n3⟩:=hne;refine⟨?_,?_,?_,?_,?_⟩
 ·exact ((hO.set_ 0 v1).far (p:=⟨bp,0,none⟩) (Ne.symm n1) s).far (p:=⟨bd,0,none⟩) n3 d
 ·exact ownsRow_setCell_other (ownsRow_setCell_other (ownsRow_setCell_other hown (own_ne hown b2) _) (own_ne hown b1) _) (own_ne hown b3) _
 ·exact ((hP.far (p:=⟨bo,0,none⟩) n1 v1).set_ 0 s).far (p:=⟨bd,0,none⟩) n2 d
 ·exact ((hD.far (p:=⟨bo,0,none⟩) (Ne.symm n3) v1).far (p:=⟨bp,0,none⟩) (Ne.symm n2) s).set_ 0 d
 ·exact (((Only.refl (FlS bp bo bd v) w1).setCell (p:=⟨bo,0,none⟩) (.inl (.inr (.inl rfl))) _).setCell (p:=⟨bp,0,none⟩) (.inl (.inl rfl)) _).setCell (p:=⟨bd,0,none⟩) (.inl (.inr (.inr (.inl rfl)))) _
theorem Qob {n:Nat}{xs:List Value}{s d x z:Value}(hb:bp<base∧bo<base∧bd<base)(hne:bp≠bo∧bp≠bd∧bo≠bd)
  (hP:Blk w1 bp 9 #[x]) (hO:Blk w1 bo 115 #[v1]) (hD:Blk w1 bd 3 #[z]) (hown:w1.ownsRow base 117 3 v1 n xs) :
  ∀ w4,w4=(w1.setCell ⟨bp,0,none⟩ s).setCell ⟨bd,0,none⟩ d →
   Blk w4 bo 115 #[v1]∧w4.ownsRow base 117 3 v1 n xs∧Blk w4 bp 9 #[s]∧Blk w4 bd 3 #[d]∧Only (FlS bp bo bd v) w1 w4:=by
 rintro w4 rfl;obtain⟨b1,b2,b3⟩:=hb;obtain⟨n1,n2,n3⟩:=hne;refine⟨?_,?_,?_,?_,?_⟩
 ·exact (hO.far (p:=⟨bp,0,none⟩) (Ne.symm n1) s).far (p:=⟨bd,0,none⟩) n3 d
 ·exact ownsRow_setCell_other (ownsRow_setCell_other hown (own_ne hown b1) _) (own_ne hown b3) _
 ·exact (hP.set_ 0 s).far (p:=⟨bd,0,none⟩) n2 d
 ·exact (hD.far (p:=⟨bp,0,none⟩) (Ne.symm n2) s).set_ 0 d
 ·exact ((Only.refl (FlS bp bo bd v) w1).setCell (p:=⟨bp,0,none⟩) (.inl (.inl rfl)) _).setCell (p:=⟨bd,0,none⟩) (.inl (.inr (.inr (.inl rfl)))) _
theorem Qoc {v2:Value}(hg:w.grownBy w1 v.ownBlock)(hk:∀ k,v1.ownBlock=some k→v.ownBlock=some k∨w.heap.size≤k){w2:World}(hg2:(w1.setCell ⟨bo,0,none⟩ v2).grownBy w2 v1.ownBlock):Only (FlS bp bo bd v) w w2:=by
 have h1:Only (FlS bp bo bd v) w w1:=(Only.of_grown hg).mono (fun _ _ e=>.inr (.inr (.inr e.symm)));refine (h1.setCell (p:=⟨bo,0,none⟩) (.inl (.inr (.inl rfl))) v2).step (Only.of_grown hg2) (fun i hi e=>?_);rcases hk i e.symm with h | h
 ·exact .inr (.inr (.inr h))
 ·omega
theorem Qf9 (h:w.grownBy w1 v.ownBlock):Only (FlS bp bo bd v) w w1:=(Only.of_grown h).mono (fun _ _ e=>.inr (.inr (.inr e.symm)))
attribute [local go_sem] Qz
theorem Qab (hb:bp<base∧bo<base∧bd<base)(hbase:base≤w.heap.size)(hne:bp≠bo∧bp≠bd∧bo≠bd)
  (hP:Blk w bp 9 #[.string ⟨put.toArray⟩]) (hO:Blk w bo 115 #[v]) (hD:Blk w bd 3 #[.int .i64 drop])
  (hown:w.ownsRow base 117 3 v out.length (opv out)) (hlen:out.length≤1099511627776) :
  Calls prog 301 #[.pointer (some ⟨bp,0,none⟩),.pointer (some ⟨bo,0,none⟩),.pointer (some ⟨bd,0,none⟩)] w (Qoa base bp bo bd v out put drop w):=by
 have HBB:=Hm hb;have HNN:=Hm hne;obtain⟨b1,b2,b3⟩:=hb;obtain⟨n1,n2,n3⟩:=hne;have n1':=Ne.symm n1;have n2':=Ne.symm n2;have n3':=Ne.symm n3;have cp:=hP.cell 0;have co:=hO.cell 0;have cd:=hD.cell 0;have fp:=hP.frozen 0;have fo:=hO.frozen 0;have fd:=hD.frozen 0;simp only[Wab,Waa] at cp co cd;have HP:=Hm hP;have HO:=Hm hO;have HD:=Hm hD;have HW:=Hm hown;obtain⟨A,k,rfl⟩:=Qm hown;clear hP hO hD hown
 by_cases h1:put=[]
 ·subst h1
  by_cases h2:0<drop
  ·have HE:Hd (opv (out++Qy [] drop)=opv out++(#[Value.int .i64 0,.int .i64 drop,.string ⟨#[]⟩]:Array Value).toList∧(out++Qy [] drop).length=out.length+1):=⟨by rw[Qy,if_pos rfl,if_pos h2,Yo,Wbn,Qf8],by rw[Qy,if_pos rfl,if_pos h2];simp⟩;go_enter func301,ntmps301
   go_wp2_with (at_builtin;refine QE QK #[.int .i64 0,.int .i64 drop,.string ⟨#[]⟩] HW.o rfl rfl rfl rfl (by simp) rfl (QP rfl rfl rfl) (by unfold maxLen;omega) (by omega) hbase ?_;intro v1 w1 hown1 hbel1 hgr1 hnew1;obtain⟨A1,k1,rfl⟩:=Qm hown1;have hO1:=HO.o.below hbel1 b2;have hP1:=HP.o.below hbel1 b1;have hD1:=HD.o.below hbel1 b3;have co1:=hO1.cell 0;have cp1:=hP1.cell 0;have cd1:=hD1.cell 0;have fo1:=hO1.frozen 0;have fp1:=hP1.frozen 0;have fd1:=hD1.frozen 0;simp only[Wab,Waa] at co1 cp1 cd1;have HO1:=Hm hO1;have HP1:=Hm hP1;have HD1:=Hm hD1;have HW1:=Hm hown1;have HG1:=Hm hgr1;have hz1:=Wbf hbase hbel1.size;have HK1:=Hm hnew1;clear hO1 hP1 hD1 hown1 hbel1 hgr1 hnew1)
   go_end0;obtain⟨r1,r2,r3,r4,r5⟩:=Qcm (v:=.slice A out.length k) (s:=.string ⟨#[]⟩) (d:=.int .i64 0) HBB.o HNN.o HP1.o HO1.o HD1.o HW1.o _ rfl
   exact⟨rfl,_,r1,by rw[HE.o.1,HE.o.2];exact r2,r3,r4,(Qf9 HG1.o).trans r5⟩
  ·have HE:Hd (opv (out++Qy [] drop)=opv out∧(out++Qy [] drop).length=out.length):=⟨by rw[Qy,if_pos rfl,if_neg h2];simp,by rw[Qy,if_pos rfl,if_neg h2];simp⟩;go_enter func301,ntmps301
   go_wp2_with fail;go_end0;obtain⟨r1,r2,r3,r4,r5⟩:=Qob (v:=.slice A out.length k) (s:=.string ⟨#[]⟩) (d:=.int .i64 0) HBB.o HNN.o HP.o HO.o HD.o HW.o _ rfl
   exact⟨rfl,_,r1,by rw[HE.o.1,HE.o.2];exact r2,r3,r4,r5⟩
 ·have h1':(put == [])=false:=by rw[Waf];exact h1
  by_cases h2:0<drop
  ·have HE:Hd (opv (out++Qy put drop)=opv out++(#[Value.int .i64 0,.int .i64 0,.string ⟨put.toArray⟩]:Array Value).toList++(#[Value.int .i64 0,.int .i64 drop,.string ⟨#[]⟩]:Array Value).toList∧(out++Qy put drop).length=out.length+1+1):=⟨by rw[Qy,if_neg h1,if_pos h2,Yo,Yo,Qf7,Qf8,Wah],by rw[Qy,if_neg h1,if_pos h2];simp⟩;have tok1:True:=trivial;go_enter func301,ntmps301
   go_upto_region 3 with (at_builtin;have _t:=tok1;refine QE QK #[.int .i64 0,.int .i64 0,.string ⟨put.toArray⟩] HW.o rfl rfl rfl rfl (by simp) rfl (QP rfl rfl rfl) (by unfold maxLen;omega) (by omega) hbase ?_;intro v1 w1 hown1 hbel1 hgr1 hnew1;obtain⟨A1,k1,rfl⟩:=Qm hown1;have hO1:=HO.o.below hbel1 b2;have hP1:=HP.o.below hbel1 b1;have hD1:=HD.o.below hbel1 b3;have co1:=hO1.cell 0;have cp1:=hP1.cell 0;have cd1:=hD1.cell 0;have fo1:=hO1.frozen 0;have fp1:=hP1.frozen 0;have fd1:=hD1.frozen 0;simp only[Wab,Waa] at co1 cp1 cd1;have HO1:=Hm hO1;have HP1:=Hm hP1;have HD1:=Hm hD1;have HW1:=Hm hown1;have HG1:=Hm hgr1;have hz1:=Wbf hbase hbel1.size;have HK1:=Hm hnew1;clear tok1 hO1 hP1 hD1 hown1 hbel1 hgr1 hnew1)
   go_wp2_with (at_builtin;refine QE QK #[.int .i64 0,.int .i64 drop,.string ⟨#[]⟩] (ownsRow_setCell_other HW1.o (own_ne HW1.o b2) _) rfl rfl rfl rfl (by simp) rfl (QP rfl rfl rfl) (by unfold maxLen;omega) (by omega) (by simp only[World.size_setCell];exact hz1) ?_;intro v2 w2 hown2 hbel2 hgr2 hnew2;obtain⟨A2,k2,rfl⟩:=Qm hown2;have hO2:=(Blk.put1 HO1.o).below hbel2 b2;have hP2:=(HP1.o.far (p:=⟨bo,0,none⟩) n1 _).below hbel2 b1;have hD2:=(HD1.o.far (p:=⟨bo,0,none⟩) n3' _).below hbel2 b3;have co2:=hO2.cell 0;have cp2:=hP2.cell 0;have cd2:=hD2.cell 0;have fo2:=hO2.frozen 0;have fp2:=hP2.frozen 0;have fd2:=hD2.frozen 0;simp only[Wab,Waa] at co2 cp2 cd2;have HO2:=Hm hO2;have HP2:=Hm hP2;have HD2:=Hm hD2;have HW2:=Hm hown2;have HG2:=Hm hgr2;have HK2:=Hm hnew2;clear hO2 hP2 hD2 hown2 hbel2 hgr2 hnew2)
   go_end0;obtain⟨r1,r2,r3,r4,r5⟩:=Qcm (v:=.slice A out.length k) (s:=.string ⟨#[]⟩) (d:=.int .i64 0) HBB.o HNN.o HP2.o HO2.o HD2.o HW2.o _ rfl
   exact⟨rfl,_,r1,by rw[HE.o.1,HE.o.2];exact r2,r3,r4,(Qoc HG1.o HK1.o HG2.o).trans r5⟩
  ·have HE:Hd (opv (out++Qy put drop)=opv out++(#[Value.int .i64 0,.int .i64 0,.string ⟨put.toArray⟩]:Array Value).toList∧(out++Qy put drop).length=out.length+1):=⟨by rw[Qy,if_neg h1,if_neg h2,Yo,Wam,Qf7],by rw[Qy,if_neg h1,if_neg h2];simp⟩;go_enter func301,ntmps301
   go_wp2_with (at_builtin;refine QE QK #[.int .i64 0,.int .i64 0,.string ⟨put.toArray⟩] HW.o rfl rfl rfl rfl (by simp) rfl (QP rfl rfl rfl) (by unfold maxLen;omega) (by omega) hbase ?_;intro v1 w1 hown1 hbel1 hgr1 hnew1;obtain⟨A1,k1,rfl⟩:=Qm hown1;have hO1:=HO.o.below hbel1 b2;have hP1:=HP.o.below hbel1 b1;have hD1:=HD.o.below hbel1 b3;have co1:=hO1.cell 0;have cp1:=hP1.cell 0;have cd1:=hD1.cell 0;have fo1:=hO1.frozen 0;have fp1:=hP1.frozen 0;have fd1:=hD1.frozen 0;simp only[Wab,Waa] at co1 cp1 cd1;have HO1:=Hm hO1;have HP1:=Hm hP1;have HD1:=Hm hD1;have HW1:=Hm hown1;have HG1:=Hm hgr1;have hz1:=Wbf hbase hbel1.size;have HK1:=Hm hnew1;clear hO1 hP1 hD1 hown1 hbel1 hgr1 hnew1)
   go_end0;obtain⟨r1,r2,r3,r4,r5⟩:=Qcm (v:=.slice A out.length k) (s:=.string ⟨#[]⟩) (d:=.int .i64 0) HBB.o HNN.o HP1.o HO1.o HD1.o HW1.o _ rfl
   exact⟨rfl,_,r1,by rw[HE.o.1,HE.o.2];exact r2,r3,r4,(Qf9 HG1.o).trans r5⟩
end
end Go.Proofs.YtckkgdmkfbkaoaaGreatDoor
