/- Texts of the proof. -/
import Derived.Test.YtdgdajnbkfmijaaGreatDoorM26
import Derived.Test.YtdgdajnbkfmijaaGreatDoorM10
namespace Go.Proofs.YtdgdajnbkfmijaaGreatDoor
open Go.Proofs.Tryz
set_option maxRecDepth 100000
set_option maxHeartbeats 32000000
section
open Go.RowKit
attribute [local go_sem ↓] Go.wp_at_zero Go.wp_at_succ
theorem YN:QC 0=.nilIface:=rfl
theorem Yp {e:Int}(h:e≠0):QC e=.iface 29 (.int .i64 e):=by unfold QC;rw[if_neg h]
noncomputable def QF (a b:List PT):Int:=if chk a (wrap64 (was a))=0 then chk b (wrap64 (was b)) else chk a (wrap64 (was a))
section
attribute [local go_sem] Qr
theorem Qjn {la lb:List PT}{va vb:Value}{na nb:Nat}{w:World}(ha:Sl w 3 va na (opv la))(hb:Sl w 3 vb nb (opv lb))(hpa:∀ p∈la,p.put.length≤35184372087808)(hpb:∀ p∈lb,p.put.length≤35184372087808) :
  Calls prog 127 #[va,vb] w fun e w'=>e=.returned (.int .i64 (QF la lb))∧Below w.heap.size w w':=by
 have HA:=Hm ha;have HB:=Hm hb;have HPA:=Hm hpa;have HPB:=Hm hpb;obtain⟨A1,c1,rfl,-⟩:=ha;obtain⟨A2,c2,rfl,-⟩:=hb;clear hpa hpb;go_enter func127,ntmps127
 go_wp2_with fail;refine wp_loop_rounds 3 ?_;rw[rounds_succ];go_wp2_with fail;have hx:Below w.heap.size w (w.alloc (.cells #[.slice A1 na c1,.slice A2 nb c2] 36)):=Qa (Wac _ _) _;refine (Xg (HA.o.below hx)).mono ?_;rintro e w1 ⟨rfl,hb1⟩;have HB1:=Hm (Qb hx hb1);have HK1:=Hm ((Blk.new w 36 #[.slice A1 na c1,.slice A2 nb c2]).below hb1 (by simp));clear hb1 hx;generalize hx1:wrap64 (was la)=x1 at *;have HX1:=Hm hx1;have hx1b:=Qan (was la);rw[hx1] at hx1b;clear hx1;go_wp2_with fail;refine (XJ (HA.o.below HB1.o) HPA.o hx1b).mono ?_;rintro e w2 ⟨rfl,hb2⟩;have HB2:=Hm (Qb HB1.o hb2);have hk2:=HK1.o.below hb2 HK1.o.lt;have q0:=hk2.cell 0;have q1:=hk2.cell 1;simp only[Wab,Waa,Wae] at q0 q1;have HK2:=Hm hk2;have hlk:=hk2.lt;clear hb2 hk2
 by_cases h0:chk la x1=0
 ·rw[h0];have H0:=Hm h0;clear h0;go_wp2_with fail;rw[rounds_succ];go_wp2_with fail;refine (Xg (HB.o.below HB2.o)).mono ?_;rintro e w3 ⟨rfl,hb3⟩;have HB3:=Hm (Qb HB2.o hb3);clear hb3;generalize hx2:wrap64 (was lb)=x2 at *;have HX2:=Hm hx2;have hx2b:=Qan (was lb);rw[hx2] at hx2b;clear hx2;go_wp2_with fail;refine (XJ (HB.o.below HB3.o) HPB.o hx2b).mono ?_;rintro e w4 ⟨rfl,hb4⟩;have HB4:=Hm (Qb HB3.o hb4);clear hb4;have HE:Hd (QF la lb=chk lb x2):=⟨by unfold QF;rw[HX1.o,if_pos H0.o,HX2.o]⟩
  by_cases h1:chk lb x2=0
  ·rw[h1];rw[h1] at HE;clear h1;go_wp2_with fail;rw[rounds_succ];go_wp2_with fail;go_ret
   exact⟨by rw[HE.o]<;>rfl,HB4.o⟩
  ·generalize chk lb x2=z at *;have h1':(z == 0)=false:=by rw[Waf];exact h1
   go_wp2_with fail;go_ret
   exact⟨by rw[HE.o]<;>rfl,HB4.o⟩
 ·have HE:Hd (QF la lb=chk la x1):=⟨by unfold QF;rw[HX1.o,if_neg h0]⟩;generalize chk la x1=z at *;have h1':(z == 0)=false:=by rw[Waf];exact h0
  go_wp2_with fail;go_ret
  exact⟨by rw[HE.o]<;>rfl,HB2.o⟩
theorem Qjo {la lb:List PT}{va vb:Value}{na nb:Nat}{w:World}(hg:Hdl w)(ha:Sl w 3 va na (opv la))(hb:Sl w 3 vb nb (opv lb))(hpa:∀ p∈la,p.put.length≤35184372087808)(hpb:∀ p∈lb,p.put.length≤35184372087808) :
  Calls prog 120 #[va,vb] w fun e w'=>e=.returned (QC (QF la lb))∧Below w.heap.size w w':=by
 have HG:=Hm hg;have HA:=Hm ha;have HB:=Hm hb;have HPA:=Hm hpa;have HPB:=Hm hpb;obtain⟨A1,c1,rfl,-⟩:=ha;obtain⟨A2,c2,rfl,-⟩:=hb;clear hpa hpb hg;go_enter func120,ntmps120
 go_wp2_with fail;refine wp_loop_rounds 3 ?_;rw[rounds_succ];go_wp2_with fail;have hx:Below w.heap.size w (w.alloc (.cells #[.slice A1 na c1,.slice A2 nb c2] 36)):=Qa (Wac _ _) _;refine (YU (HA.o.below hx)).mono ?_;rintro e w1 ⟨rfl,hb1⟩;have HB1:=Hm (Qb hx hb1);have HK1:=Hm ((Blk.new w 36 #[.slice A1 na c1,.slice A2 nb c2]).below hb1 (by simp));clear hb1 hx;generalize hx1:wrap64 (was la)=x1 at *;have HX1:=Hm hx1;have hx1b:=Qan (was la);rw[hx1] at hx1b;clear hx1;go_wp2_with fail;refine (Zr (HG.o.below HB1.o) (HA.o.below HB1.o) HPA.o hx1b).mono ?_;rintro e w2 ⟨⟨ev,rfl,-,rfl⟩,hb2⟩;have HB2:=Hm (Qb HB1.o hb2);have hk2:=HK1.o.below hb2 HK1.o.lt;have q0:=hk2.cell 0;have q1:=hk2.cell 1;simp only[Wab,Waa,Wae] at q0 q1;have HK2:=Hm hk2;have hlk:=hk2.lt;clear hb2 hk2
 by_cases h0:chk la x1=0
 ·rw[h0,YN];have H0:=Hm h0;clear h0;go_wp2_with fail;rw[rounds_succ];go_wp2_with fail;refine (YU (HB.o.below HB2.o)).mono ?_;rintro e w3 ⟨rfl,hb3⟩;have HB3:=Hm (Qb HB2.o hb3);clear hb3;generalize hx2:wrap64 (was lb)=x2 at *;have HX2:=Hm hx2;have hx2b:=Qan (was lb);rw[hx2] at hx2b;clear hx2;go_wp2_with fail;refine (Zr (HG.o.below HB3.o) (HB.o.below HB3.o) HPB.o hx2b).mono ?_;rintro e w4 ⟨⟨ev,rfl,-,rfl⟩,hb4⟩;have HB4:=Hm (Qb HB3.o hb4);clear hb4;have HE:Hd (QF la lb=chk lb x2):=⟨by unfold QF;rw[HX1.o,if_pos H0.o,HX2.o]⟩
  by_cases h1:chk lb x2=0
  ·rw[h1,YN];rw[h1] at HE;clear h1;go_wp2_with fail;rw[rounds_succ];go_wp2_with fail;go_ret
   exact⟨by rw[HE.o,YN]<;>rfl,HB4.o⟩
  ·rw[Yp h1];have H1:=Hm h1;generalize chk lb x2=z at *;clear h1;go_wp2_with fail;go_ret
   exact⟨by rw[HE.o,Yp H1.o]<;>rfl,HB4.o⟩
 ·have HE:Hd (QF la lb=chk la x1):=⟨by unfold QF;rw[HX1.o,if_neg h0]⟩;rw[Yp h0];have H0:=Hm h0;generalize chk la x1=z at *;clear h0;go_wp2_with fail;go_ret
  exact⟨by rw[HE.o,Yp H0.o]<;>rfl,HB2.o⟩
end
end
section
def Qi:List (RU Int)→List Int→List PT
 | .p r :: X,R=>(U.enc r).map PT.byte++Qi X R
 | .k :: X,r :: R=>List.replicate (U.wid r) PT.k1++Qi X R
 | .d :: X,r :: R=>List.replicate (U.wid r) PT.d1++Qi X R
 | _,_=>[]
theorem Qeh (r:Int):∃ n,U.wid r=n+1:=⟨U.wid r-1,by have:=U.wid_pos r;omega⟩
theorem Qkb (r:Int)(u:Bool)(x:List PT):hput (List.replicate (U.wid r) (unit u)++x)=false:=by
 obtain⟨n,e⟩:=Qeh r;rw[e,Wat];exact Xc u
theorem Qkc (q:Int)(Y:List (RU Int))(R:List Int):hput (Qi (.k :: Y) (q :: R))=false:=Qkb q false _
theorem Qkd (q:Int)(Y:List (RU Int))(R:List Int):hput (Qi (.d :: Y) (q :: R))=false:=Qkb q true _
theorem Qus (r:Int)(x:List PT):¬ hdrop (List.replicate (U.wid r) PT.k1++x):=by
 obtain⟨n,e⟩:=Qeh r;rw[e,Wat]
 show ¬ (0:Int)<PT.k1.drop
 decide
theorem Qut (r:Int):∃ c b,U.enc r=c :: b:=by
 have:=U.enc_length r
 have h2:=U.wid_pos r
 match h:U.enc r with
 | []=>rw[h] at this;simp at this;omega
 | c :: b=>exact⟨c,b,rfl⟩
theorem Quu (r:Int)(x:List PT):¬ hdrop ((U.enc r).map PT.byte++x):=by
 obtain⟨c,b,e⟩:=Qut r;rw[e]
 show ¬ (0:Int)<(PT.byte c).drop
 simp[PT.byte]
theorem Quv {first:Bool}{X Y:List (RU Int)}{R:List Int}(hx:Qd X=R.length)(hy:Qd Y=R.length):tr first (Qi X R) (Qi Y R)=Qi (rtr first X Y) (rap Y R):=by
 generalize hm:X.length+Y.length=m
 induction m using Nat.strongRecOn generalizing X Y R with
 | _ m ih =>
  have step:∀ (X' Y':List (RU Int)) (R':List Int),X'.length+Y'.length<m→Qd X'=R'.length→Qd Y'=R'.length→tr first (Qi X' R') (Qi Y' R')=Qi (rtr first X' Y') (rap Y' R'):=fun X' Y' R' h1 h2 h3=>ih _ h1 h2 h3 rfl
  clear ih
  match X,Y,R with
  | [],[],R=>simp[Qi,rtr,tr,rap]
  | .p r :: X,[],R =>
   have:=step X [] R (by simp at hm ⊢;omega) hx hy
   rw[show Qi (.p r :: X) R=(U.enc r).map PT.byte++Qi X R from rfl,Xq _ _ _ (.inr (by simp[Qi,hput])),this];simp[rtr,Qi]
  | [],.p r :: Y,R =>
   have:=step [] Y R (by simp at hm ⊢;omega) hx hy
   rw[show Qi (.p r :: Y) R=(U.enc r).map PT.byte++Qi Y R from rfl,Xr _ _ _ (.inr (by simp[Qi,hput])),this,U.enc_length];simp[rtr,Qi,rap]
  | .k :: X,[],R=>simp[Qd] at hx hy;omega
  | .d :: X,[],R=>simp[Qd] at hx hy;omega
  | [],.k :: X,R=>simp[Qd] at hx hy;omega
  | [],.d :: X,R=>simp[Qd] at hx hy;omega
  | .p r :: X,.p s :: Y,R =>
   cases hf:first with
   | true =>
    subst hf
    have:=step X (.p s :: Y) R (by simp at hm ⊢;omega) hx hy
    rw[show Qi (.p r :: X) R=(U.enc r).map PT.byte++Qi X R from rfl,Xq _ _ _ (.inl rfl),this];simp[rtr,Qi]
   | false =>
    subst hf
    have:=step (.p r :: X) Y R (by simp at hm ⊢;omega) hx hy
    rw[show Qi (.p s :: Y) R=(U.enc s).map PT.byte++Qi Y R from rfl,Xr _ _ _ (.inl rfl),this,U.enc_length];simp[rtr,Qi,rap]
  | .p r :: X,.k :: Y,[]=>simp[Qd] at hy
  | .p r :: X,.d :: Y,[]=>simp[Qd] at hy
  | .p r :: X,.k :: Y,q :: R =>
   have:=step X (.k :: Y) (q :: R) (by simp at hm ⊢;omega) hx hy
   rw[show Qi (.p r :: X) (q :: R)=(U.enc r).map PT.byte++Qi X (q :: R) from rfl,Xq _ _ _ (.inr (Qkc q _ _)),this];simp[rtr,Qi]
  | .p r :: X,.d :: Y,q :: R =>
   have:=step X (.d :: Y) (q :: R) (by simp at hm ⊢;omega) hx hy
   rw[show Qi (.p r :: X) (q :: R)=(U.enc r).map PT.byte++Qi X (q :: R) from rfl,Xq _ _ _ (.inr (Qkd q _ _)),this];simp[rtr,Qi]
  | .k :: X,.p s :: Y,[]=>simp[Qd] at hx
  | .d :: X,.p s :: Y,[]=>simp[Qd] at hx
  | .k :: X,.p s :: Y,q :: R =>
   have:=step (.k :: X) Y (q :: R) (by simp at hm ⊢;omega) hx hy
   rw[show Qi (.p s :: Y) (q :: R)=(U.enc s).map PT.byte++Qi Y (q :: R) from rfl,Xr _ _ _ (.inr (Qkc q _ _)),this,U.enc_length];simp[rtr,Qi,rap]
  | .d :: X,.p s :: Y,q :: R =>
   have:=step (.d :: X) Y (q :: R) (by simp at hm ⊢;omega) hx hy
   rw[show Qi (.p s :: Y) (q :: R)=(U.enc s).map PT.byte++Qi Y (q :: R) from rfl,Xr _ _ _ (.inr (Qkd q _ _)),this,U.enc_length];simp[rtr,Qi,rap]
  | .k :: X,.k :: Y,[]=>simp[Qd] at hx
  | .k :: X,.d :: Y,[]=>simp[Qd] at hx
  | .d :: X,.k :: Y,[]=>simp[Qd] at hx
  | .d :: X,.d :: Y,[]=>simp[Qd] at hx
  | .k :: X,.k :: Y,q :: R =>
   have:=step X Y R (by simp at hm ⊢;omega) (by simpa [Qd] using hx) (by simpa [Qd] using hy)
   have h2:=Ja (first:=first) (U.wid q) false false (Qi X R) (Qi Y R);rw[this] at h2;simpa [rtr,Qi,rap,unit] using h2
  | .k :: X,.d :: Y,q :: R =>
   have:=step X Y R (by simp at hm ⊢;omega) (by simpa [Qd] using hx) (by simpa [Qd] using hy)
   have h2:=Ja (first:=first) (U.wid q) false true (Qi X R) (Qi Y R);rw[this] at h2;simpa [rtr,Qi,rap,unit] using h2
  | .d :: X,.k :: Y,q :: R =>
   have:=step X Y R (by simp at hm ⊢;omega) (by simpa [Qd] using hx) (by simpa [Qd] using hy)
   have h2:=Ja (first:=first) (U.wid q) true false (Qi X R) (Qi Y R);rw[this] at h2;simpa [rtr,Qi,rap,unit] using h2
  | .d :: X,.d :: Y,q :: R =>
   have:=step X Y R (by simp at hm ⊢;omega) (by simpa [Qd] using hx) (by simpa [Qd] using hy)
   have h2:=Ja (first:=first) (U.wid q) true true (Qi X R) (Qi Y R);rw[this] at h2;simpa [rtr,Qi,rap,unit] using h2
theorem Quw {X Y:List (RU Int)}{R:List Int}(hx:Qd X=R.length)(hy:Qd Y=Ql X):cm (Qi X R) (Qi Y (rap X R))=Qi (rcm X Y) R:=by
 generalize hm:X.length+Y.length=m
 induction m using Nat.strongRecOn generalizing X Y R with
 | _ m ih =>
  have step:∀ (X' Y':List (RU Int)) (R':List Int),X'.length+Y'.length<m→Qd X'=R'.length→Qd Y'=Ql X'→cm (Qi X' R') (Qi Y' (rap X' R'))=Qi (rcm X' Y') R':=fun X' Y' R' h1 h2 h3=>ih _ h1 h2 h3 rfl
  clear ih
  match X,Y,R with
  | .d :: X,Y,[]=>simp[Qd] at hx
  | .d :: X,Y,q :: R =>
   have:=step X Y R (by simp at hm ⊢;omega) (by simpa [Qd] using hx) hy
   rw[show Qi (.d :: X) (q :: R)=List.replicate (U.wid q) PT.d1++Qi X R from rfl,Qir,show rap (.d :: X) (q :: R)=rap X R from rfl,this];simp[rcm,Qi]
  | .p r :: X,.p s :: Y,R =>
   have:=step (.p r :: X) Y R (by simp at hm ⊢;omega) hx hy
   rw[show ∀ S,Qi (.p s :: Y) S=(U.enc s).map PT.byte++Qi Y S from fun _=>rfl,Qa7 _ _ _ (show ¬ hdrop (Qi (.p r :: X) R) from Quu r _),this];simp[rcm,Qi]
  | .k :: X,.p s :: Y,[]=>simp[Qd] at hx
  | .k :: X,.p s :: Y,q :: R =>
   have:=step (.k :: X) Y (q :: R) (by simp at hm ⊢;omega) hx hy
   rw[show ∀ S,Qi (.p s :: Y) S=(U.enc s).map PT.byte++Qi Y S from fun _=>rfl,Qa7 _ _ _ (show ¬ hdrop (Qi (.k :: X) (q :: R)) from Qus q _),this];simp[rcm,Qi]
  | [],.p s :: Y,R =>
   have:=step [] Y R (by simp at hm ⊢;omega) hx hy
   rw[show ∀ S,Qi (.p s :: Y) S=(U.enc s).map PT.byte++Qi Y S from fun _=>rfl,Qa7 _ _ _ (by simp[Qi,hdrop]),this];simp[rcm,Qi]
  | .p r :: X,.k :: Y,R =>
   have:=step X Y R (by simp at hm ⊢;omega) hx (by simpa [Qd,Ql] using hy)
   have h2:=Qdo (U.enc r) false (Qi X R) (Qi Y (rap X R));rw[this,U.enc_length] at h2;simpa [rcm,Qi,rap,unit] using h2
  | .p r :: X,.d :: Y,R =>
   have:=step X Y R (by simp at hm ⊢;omega) hx (by simpa [Qd,Ql] using hy)
   have h2:=Qdo (U.enc r) true (Qi X R) (Qi Y (rap X R));rw[this,U.enc_length] at h2;simpa [rcm,Qi,rap,unit] using h2
  | .k :: X,.k :: Y,[]=>simp[Qd] at hx
  | .k :: X,.d :: Y,[]=>simp[Qd] at hx
  | .k :: X,.k :: Y,q :: R =>
   have:=step X Y R (by simp at hm ⊢;omega) (by simpa [Qd] using hx) (by simpa [Qd,Ql] using hy)
   have h2:=Qdp (U.wid q) false (Qi X R) (Qi Y (rap X R));rw[this] at h2;simpa [rcm,Qi,rap,unit] using h2
  | .k :: X,.d :: Y,q :: R =>
   have:=step X Y R (by simp at hm ⊢;omega) (by simpa [Qd] using hx) (by simpa [Qd,Ql] using hy)
   have h2:=Qdp (U.wid q) true (Qi X R) (Qi Y (rap X R));rw[this] at h2;simpa [rcm,Qi,rap,unit] using h2
  | .p r :: X,[],R=>simp[Qd,Ql] at hy
  | .k :: X,[],R=>simp[Qd,Ql] at hy
  | [],.k :: Y,R=>simp[Qd,Ql] at hy
  | [],.d :: Y,R=>simp[Qd,Ql] at hy
  | [],[],R=>simp[rcm,Qi,cm]
inductive OpR:List PT→List (RU Int)→List Int→Prop
 | nil:OpR [] [] []
 | put {rs l X R}:rs≠[]→U.AllR rs→OpR l X R→OpR (⟨0,0,U.encs rs⟩ :: l) (rs.map .p++X) R
 | keep {rs l X R}:rs≠[]→OpR l X R→OpR (⟨bl rs,0,[]⟩ :: l) (List.replicate rs.length .k++X) (rs++R)
 | drop {rs l X R}:rs≠[]→OpR l X R→OpR (⟨0,bl rs,[]⟩ :: l) (List.replicate rs.length .d++X) (rs++R)
theorem OpR.append {a b:List PT}{X Y:List (RU Int)}{R S:List Int}(h:OpR a X R)(k:OpR b Y S):OpR (a++b) (X++Y) (R++S):=by
 induction h with
 | nil=>exact k
 | put h1 h2 _ ih=>rw[Wah];exact .put h1 h2 ih
 | keep h1 _ ih=>rw[Wah,Wah];exact .keep h1 ih
 | drop h1 _ ih=>rw[Wah,Wah];exact .drop h1 ih
theorem Qux (rs:List Int)(X:List (RU Int)):Qd (rs.map .p++X)=Qd X:=by
 induction rs with
 | nil=>rfl
 | cons r rs ih=>exact ih
theorem Quy (n:Nat)(X:List (RU Int)):Qd (List.replicate n .k++X)=n+Qd X:=by
 induction n with
 | zero=>simp
 | succ n ih=>simp only[Wat,Wap,Qd,ih];omega
theorem OpR.was_ {l:List PT}{X:List (RU Int)}{R:List Int}(h:OpR l X R):Qd X=R.length:=by
 induction h with
 | nil=>rfl
 | put _ _ _ ih=>rw[Qux,ih]
 | keep _ _ ih=>rw[Quy,ih,Wad]
 | drop _ _ ih=>rw[Qf2,Qcc,ih,Wad]
theorem Quz (rs:List Int)(X:List (RU Int))(R:List Int):Qi (rs.map .p++X) R=(U.encs rs).map PT.byte++Qi X R:=by
 induction rs with
 | nil=>rfl
 | cons r rs ih=>simp only[List.map_cons,Wap,Qi,ih,U.encs_cons,Wbo,Wah]
theorem Qu0 (rs:List Int)(X:List (RU Int))(R:List Int):Qi (List.replicate rs.length .k++X) (rs++R)=List.replicate (bl rs) PT.k1++Qi X R:=by
 induction rs with
 | nil=>rfl
 | cons r rs ih=>simp only[Wan,Wat,Wap,Qi,ih,Z0];rw[← Wah,List.replicate_append_replicate]
theorem Qu1 (rs:List Int)(X:List (RU Int))(R:List Int):Qi (List.replicate rs.length .d++X) (rs++R)=List.replicate (bl rs) PT.d1++Qi X R:=by
 induction rs with
 | nil=>rfl
 | cons r rs ih=>simp only[Wan,Wat,Wap,Qi,ih,Z0];rw[← Wah,List.replicate_append_replicate]
theorem Ya {rs:List Int}(h:rs≠[]):U.encs rs≠[]:=fun e=>by
 have:=ZK h
 unfold bl at this;rw[e] at this;simp at this
theorem Qbo:U.Sp [] [] []:=U.sp_encs (rs:=[]) (fun r hr=>by cases hr)
theorem OpR.arg {l:List PT}{X:List (RU Int)}{R:List Int}(h:OpR l X R):∀ p∈l,p.Good:=by
 induction h with
 | nil=>intro p hp;simp at hp
 | put h1 h2 _ ih =>
  intro p hp;rcases Wbk.1 hp with rfl | hp
  ·exact⟨PT.arg_put (Ya h1),_,U.sp_encs h2⟩
  ·exact ih p hp
 | keep h1 _ ih =>
  intro p hp;rcases Wbk.1 hp with rfl | hp
  ·exact⟨PT.arg_keep (by have:=ZK h1;omega),[],Qbo⟩
  ·exact ih p hp
 | drop h1 _ ih =>
  intro p hp;rcases Wbk.1 hp with rfl | hp
  ·exact⟨PT.arg_drop (by have:=ZK h1;omega),[],Qbo⟩
  ·exact ih p hp
theorem OpR.expand_ {l:List PT}{X:List (RU Int)}{R:List Int}(h:OpR l X R):Qf l=Qi X R:=by
 induction h with
 | nil=>rfl
 | put h1 h2 _ ih=>rw[Yc,Z4,Quz,ih]
 | keep h1 _ ih =>
  have:=ZK h1
  rw[Yc,Qu0,ih];simp[PT.exp]
 | drop h1 _ ih =>
  have:=ZK h1
  rw[Yc,Qu1,ih]
  congr 1
  unfold PT.exp;rw[if_neg (by simp),if_pos (by dsimp only;omega)];simp
theorem OpR.sizes {l:List PT}{X:List (RU Int)}{R:List Int}(h:OpR l X R):was l=bl R∧comes l=bl (rap X R):=by
 induction h with
 | nil=>exact⟨rfl,rfl⟩
 | @put rs l X R h1 h2 _ ih =>
  have e:rap (rs.map .p++X) R=rs++rap X R:=by
   clear h1 h2 ih
   induction rs with
   | nil=>rfl
   | cons r rs ih2=>simp only[List.map_cons,Wap,rap,ih2]
  rw[was,comes,e,bl_append,ih.1,ih.2];unfold bl
  constructor<;>dsimp only<;>omega
 | @keep rs l X R h1 _ ih =>
  have e:rap (List.replicate rs.length .k++X) (rs++R)=rs++rap X R:=by
   clear h1 ih
   induction rs with
   | nil=>rfl
   | cons r rs ih2=>simp only[Wan,Wat,Wap,rap,ih2]
  rw[was,comes,e,bl_append,bl_append,ih.1,ih.2]
  constructor<;>dsimp only[List.length_nil]<;>omega
 | @drop rs l X R h1 _ ih =>
  have e:rap (List.replicate rs.length .d++X) (rs++R)=rap X R:=by
   clear h1 ih
   induction rs with
   | nil=>rfl
   | cons r rs ih2=>simp only[Wan,Wat,Wap,rap,ih2]
  rw[was,comes,e,bl_append,ih.1,ih.2]
  constructor<;>dsimp only[List.length_nil]<;>omega
end
end Go.Proofs.YtdgdajnbkfmijaaGreatDoor
