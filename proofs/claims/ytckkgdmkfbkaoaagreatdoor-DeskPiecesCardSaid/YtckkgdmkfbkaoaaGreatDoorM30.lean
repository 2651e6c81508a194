/- Texts of the proof. -/
import Derived.Test.YtckkgdmkfbkaoaaGreatDoorM26
namespace Go.Proofs.YtckkgdmkfbkaoaaGreatDoor
open Go.Proofs.Tryz
set_option maxRecDepth 100000
set_option maxHeartbeats 32000000
set_option linter.all false
section
open Go.RowKit
attribute [local go_sem ↓] Go.wp_at_zero Go.wp_at_succ
theorem YC:Q4 0=.nilIface:=rfl
theorem Yq {e:Int}(h:e≠0):Q4 e=.iface 31 (.int .i64 e):=by unfold Q4;rw[if_neg h]
noncomputable def Zf (a b:List PT):Int:=if chk a (wrap64 (was a))=0 then chk b (wrap64 (was b)) else chk a (wrap64 (was a))
section
attribute [local go_sem] Qz
theorem Qhc {la lb:List PT}{va vb:Value}{na nb:Nat}{w:World}(hg:Hdl w)(ha:Sl w 3 va na (opv la))(hb:Sl w 3 vb nb (opv lb))(hpa:∀ p∈la,p.put.length≤35184372087808)(hpb:∀ p∈lb,p.put.length≤35184372087808) :
  Calls prog 273 #[va,vb] w fun e w'=>e=.returned (Q4 (Zf la lb))∧Below w.heap.size w w':=by
 have HG:=Hm hg;have HA:=Hm ha;have HB:=Hm hb;have HPA:=Hm hpa;have HPB:=Hm hpb;obtain⟨A1,c1,rfl,-⟩:=ha;obtain⟨A2,c2,rfl,-⟩:=hb;clear hpa hpb hg;go_enter func273,ntmps273
 go_wp2_with fail;refine wp_loop_rounds 3 ?_;rw[rounds_succ];go_wp2_with fail;have hx:Below w.heap.size w (w.alloc (.cells #[.slice A1 na c1,.slice A2 nb c2] 115)):=Qb (Wac _ _) _;refine (Xm (HA.o.below hx)).mono ?_;rintro e w1 ⟨rfl,hb1⟩;have HB1:=Hm (Qa hx hb1);have HK1:=Hm ((Blk.new w 115 #[.slice A1 na c1,.slice A2 nb c2]).below hb1 (by simp));clear hb1 hx;generalize hx1:wrap64 (was la)=x1 at *;have HX1:=Hm hx1;have hx1b:=Qfz (was la);rw[hx1] at hx1b;clear hx1;go_wp2_with fail;refine (Zv (HG.o.below HB1.o) (HA.o.below HB1.o) HPA.o hx1b).mono ?_;rintro e w2 ⟨⟨ev,rfl,-,rfl⟩,hb2⟩;have HB2:=Hm (Qa HB1.o hb2);have hk2:=HK1.o.below hb2 HK1.o.lt;have q0:=hk2.cell 0;have q1:=hk2.cell 1;simp only[Wab,Waa,Wae] at q0 q1;have HK2:=Hm hk2;have hlk:=hk2.lt;clear hb2 hk2
 by_cases h0:chk la x1=0
 ·rw[h0,YC];have H0:=Hm h0;clear h0;go_wp2_with fail;rw[rounds_succ];go_wp2_with fail;refine (Xm (HB.o.below HB2.o)).mono ?_;rintro e w3 ⟨rfl,hb3⟩;have HB3:=Hm (Qa HB2.o hb3);clear hb3;generalize hx2:wrap64 (was lb)=x2 at *;have HX2:=Hm hx2;have hx2b:=Qfz (was lb);rw[hx2] at hx2b;clear hx2;go_wp2_with fail;refine (Zv (HG.o.below HB3.o) (HB.o.below HB3.o) HPB.o hx2b).mono ?_;rintro e w4 ⟨⟨ev,rfl,-,rfl⟩,hb4⟩;have HB4:=Hm (Qa HB3.o hb4);clear hb4;have HE:Hd (Zf la lb=chk lb x2):=⟨by unfold Zf;rw[HX1.o,if_pos H0.o,HX2.o]⟩
  by_cases h1:chk lb x2=0
  ·rw[h1,YC];rw[h1] at HE;clear h1;go_wp2_with fail;rw[rounds_succ];go_wp2_with fail;go_ret
   exact⟨by rw[HE.o,YC]<;>rfl,HB4.o⟩
  ·rw[Yq h1];have H1:=Hm h1;generalize chk lb x2=z at *;clear h1;go_wp2_with fail;go_ret
   exact⟨by rw[HE.o,Yq H1.o]<;>rfl,HB4.o⟩
 ·have HE:Hd (Zf la lb=chk la x1):=⟨by unfold Zf;rw[HX1.o,if_neg h0]⟩;rw[Yq h0];have H0:=Hm h0;generalize chk la x1=z at *;clear h0;go_wp2_with fail;go_ret
  exact⟨by rw[HE.o,Yq H0.o]<;>rfl,HB2.o⟩
end
end
section
def Qf:List (RU Int)→List Int→List PT
 | .p r :: X,R=>(U.enc r).map PT.byte++Qf X R
 | .k :: X,r :: R=>List.replicate (U.wid r) PT.k1++Qf X R
 | .d :: X,r :: R=>List.replicate (U.wid r) PT.d1++Qf X R
 | _,_=>[]
theorem Qbv (r:Int):∃ n,U.wid r=n+1:=⟨U.wid r-1,by have:=U.wid_pos r;omega⟩
theorem Qep (r:Int)(u:Bool)(x:List PT):hput (List.replicate (U.wid r) (unit u)++x)=false:=by
 obtain⟨n,e⟩:=Qbv r;rw[e,Wat];exact Ja u
theorem Qeq (q:Int)(Y:List (RU Int))(R:List Int):hput (Qf (.k :: Y) (q :: R))=false:=Qep q false _
theorem Qer (q:Int)(Y:List (RU Int))(R:List Int):hput (Qf (.d :: Y) (q :: R))=false:=Qep q true _
theorem Qkp (r:Int)(x:List PT):¬ hdrop (List.replicate (U.wid r) PT.k1++x):=by
 obtain⟨n,e⟩:=Qbv r;rw[e,Wat]
 show ¬ (0:Int)<PT.k1.drop
 decide
theorem Qkq (r:Int):∃ c b,U.enc r=c :: b:=by
 have:=U.enc_length r
 have h2:=U.wid_pos r
 match h:U.enc r with
 | []=>rw[h] at this;simp at this;omega
 | c :: b=>exact⟨c,b,rfl⟩
theorem Qkr (r:Int)(x:List PT):¬ hdrop ((U.enc r).map PT.byte++x):=by
 obtain⟨c,b,e⟩:=Qkq r;rw[e]
 show ¬ (0:Int)<(PT.byte c).drop
 simp[PT.byte]
theorem Qks {first:Bool}{X Y:List (RU Int)}{R:List Int}(hx:Qc X=R.length)(hy:Qc Y=R.length):tr first (Qf X R) (Qf Y R)=Qf (rtr first X Y) (rap Y R):=by
 generalize hm:X.length+Y.length=m
 induction m using Nat.strongRecOn generalizing X Y R with
 | _ m ih =>
  have step:∀ (X' Y':List (RU Int)) (R':List Int),X'.length+Y'.length<m→Qc X'=R'.length→Qc Y'=R'.length→tr first (Qf X' R') (Qf Y' R')=Qf (rtr first X' Y') (rap Y' R'):=fun X' Y' R' h1 h2 h3=>ih _ h1 h2 h3 rfl
  clear ih
  match X,Y,R with
  | [],[],R=>simp[Qf,rtr,tr,rap]
  | .p r :: X,[],R =>
   have:=step X [] R (by simp at hm ⊢;omega) hx hy
   rw[show Qf (.p r :: X) R=(U.enc r).map PT.byte++Qf X R from rfl,JD _ _ _ (.inr (by simp[Qf,hput])),this];simp[rtr,Qf]
  | [],.p r :: Y,R =>
   have:=step [] Y R (by simp at hm ⊢;omega) hx hy
   rw[show Qf (.p r :: Y) R=(U.enc r).map PT.byte++Qf Y R from rfl,JE _ _ _ (.inr (by simp[Qf,hput])),this,U.enc_length];simp[rtr,Qf,rap]
  | .k :: X,[],R=>simp[Qc] at hx hy;omega
  | .d :: X,[],R=>simp[Qc] at hx hy;omega
  | [],.k :: X,R=>simp[Qc] at hx hy;omega
  | [],.d :: X,R=>simp[Qc] at hx hy;omega
  | .p r :: X,.p s :: Y,R =>
   cases hf:first with
   | true =>
    subst hf
    have:=step X (.p s :: Y) R (by simp at hm ⊢;omega) hx hy
    rw[show Qf (.p r :: X) R=(U.enc r).map PT.byte++Qf X R from rfl,JD _ _ _ (.inl rfl),this];simp[rtr,Qf]
   | false =>
    subst hf
    have:=step (.p r :: X) Y R (by simp at hm ⊢;omega) hx hy
    rw[show Qf (.p s :: Y) R=(U.enc s).map PT.byte++Qf Y R from rfl,JE _ _ _ (.inl rfl),this,U.enc_length];simp[rtr,Qf,rap]
  | .p r :: X,.k :: Y,[]=>simp[Qc] at hy
  | .p r :: X,.d :: Y,[]=>simp[Qc] at hy
  | .p r :: X,.k :: Y,q :: R =>
   have:=step X (.k :: Y) (q :: R) (by simp at hm ⊢;omega) hx hy
   rw[show Qf (.p r :: X) (q :: R)=(U.enc r).map PT.byte++Qf X (q :: R) from rfl,JD _ _ _ (.inr (Qeq q _ _)),this];simp[rtr,Qf]
  | .p r :: X,.d :: Y,q :: R =>
   have:=step X (.d :: Y) (q :: R) (by simp at hm ⊢;omega) hx hy
   rw[show Qf (.p r :: X) (q :: R)=(U.enc r).map PT.byte++Qf X (q :: R) from rfl,JD _ _ _ (.inr (Qer q _ _)),this];simp[rtr,Qf]
  | .k :: X,.p s :: Y,[]=>simp[Qc] at hx
  | .d :: X,.p s :: Y,[]=>simp[Qc] at hx
  | .k :: X,.p s :: Y,q :: R =>
   have:=step (.k :: X) Y (q :: R) (by simp at hm ⊢;omega) hx hy
   rw[show Qf (.p s :: Y) (q :: R)=(U.enc s).map PT.byte++Qf Y (q :: R) from rfl,JE _ _ _ (.inr (Qeq q _ _)),this,U.enc_length];simp[rtr,Qf,rap]
  | .d :: X,.p s :: Y,q :: R =>
   have:=step (.d :: X) Y (q :: R) (by simp at hm ⊢;omega) hx hy
   rw[show Qf (.p s :: Y) (q :: R)=(U.enc s).map PT.byte++Qf Y (q :: R) from rfl,JE _ _ _ (.inr (Qer q _ _)),this,U.enc_length];simp[rtr,Qf,rap]
  | .k :: X,.k :: Y,[]=>simp[Qc] at hx
  | .k :: X,.d :: Y,[]=>simp[Qc] at hx
  | .d :: X,.k :: Y,[]=>simp[Qc] at hx
  | .d :: X,.d :: Y,[]=>simp[Qc] at hx
  | .k :: X,.k :: Y,q :: R =>
   have:=step X Y R (by simp at hm ⊢;omega) (by simpa [Qc] using hx) (by simpa [Qc] using hy)
   have h2:=JF (first:=first) (U.wid q) false false (Qf X R) (Qf Y R);rw[this] at h2;simpa [rtr,Qf,rap,unit] using h2
  | .k :: X,.d :: Y,q :: R =>
   have:=step X Y R (by simp at hm ⊢;omega) (by simpa [Qc] using hx) (by simpa [Qc] using hy)
   have h2:=JF (first:=first) (U.wid q) false true (Qf X R) (Qf Y R);rw[this] at h2;simpa [rtr,Qf,rap,unit] using h2
  | .d :: X,.k :: Y,q :: R =>
   have:=step X Y R (by simp at hm ⊢;omega) (by simpa [Qc] using hx) (by simpa [Qc] using hy)
   have h2:=JF (first:=first) (U.wid q) true false (Qf X R) (Qf Y R);rw[this] at h2;simpa [rtr,Qf,rap,unit] using h2
  | .d :: X,.d :: Y,q :: R =>
   have:=step X Y R (by simp at hm ⊢;omega) (by simpa [Qc] using hx) (by simpa [Qc] using hy)
   have h2:=JF (first:=first) (U.wid q) true true (Qf X R) (Qf Y R);rw[this] at h2;simpa [rtr,Qf,rap,unit] using h2
theorem Qkt {X Y:List (RU Int)}{R:List Int}(hx:Qc X=R.length)(hy:Qc Y=Qh X):cm (Qf X R) (Qf Y (rap X R))=Qf (rcm X Y) R:=by
 generalize hm:X.length+Y.length=m
 induction m using Nat.strongRecOn generalizing X Y R with
 | _ m ih =>
  have step:∀ (X' Y':List (RU Int)) (R':List Int),X'.length+Y'.length<m→Qc X'=R'.length→Qc Y'=Qh X'→cm (Qf X' R') (Qf Y' (rap X' R'))=Qf (rcm X' Y') R':=fun X' Y' R' h1 h2 h3=>ih _ h1 h2 h3 rfl
  clear ih
  match X,Y,R with
  | .d :: X,Y,[]=>simp[Qc] at hx
  | .d :: X,Y,q :: R =>
   have:=step X Y R (by simp at hm ⊢;omega) (by simpa [Qc] using hx) hy
   rw[show Qf (.d :: X) (q :: R)=List.replicate (U.wid q) PT.d1++Qf X R from rfl,Qjm,show rap (.d :: X) (q :: R)=rap X R from rfl,this];simp[rcm,Qf]
  | .p r :: X,.p s :: Y,R =>
   have:=step (.p r :: X) Y R (by simp at hm ⊢;omega) hx hy
   rw[show ∀ S,Qf (.p s :: Y) S=(U.enc s).map PT.byte++Qf Y S from fun _=>rfl,Qbd _ _ _ (show ¬ hdrop (Qf (.p r :: X) R) from Qkr r _),this];simp[rcm,Qf]
  | .k :: X,.p s :: Y,[]=>simp[Qc] at hx
  | .k :: X,.p s :: Y,q :: R =>
   have:=step (.k :: X) Y (q :: R) (by simp at hm ⊢;omega) hx hy
   rw[show ∀ S,Qf (.p s :: Y) S=(U.enc s).map PT.byte++Qf Y S from fun _=>rfl,Qbd _ _ _ (show ¬ hdrop (Qf (.k :: X) (q :: R)) from Qkp q _),this];simp[rcm,Qf]
  | [],.p s :: Y,R =>
   have:=step [] Y R (by simp at hm ⊢;omega) hx hy
   rw[show ∀ S,Qf (.p s :: Y) S=(U.enc s).map PT.byte++Qf Y S from fun _=>rfl,Qbd _ _ _ (by simp[Qf,hdrop]),this];simp[rcm,Qf]
  | .p r :: X,.k :: Y,R =>
   have:=step X Y R (by simp at hm ⊢;omega) hx (by simpa [Qc,Qh] using hy)
   have h2:=Qd1 (U.enc r) false (Qf X R) (Qf Y (rap X R));rw[this,U.enc_length] at h2;simpa [rcm,Qf,rap,unit] using h2
  | .p r :: X,.d :: Y,R =>
   have:=step X Y R (by simp at hm ⊢;omega) hx (by simpa [Qc,Qh] using hy)
   have h2:=Qd1 (U.enc r) true (Qf X R) (Qf Y (rap X R));rw[this,U.enc_length] at h2;simpa [rcm,Qf,rap,unit] using h2
  | .k :: X,.k :: Y,[]=>simp[Qc] at hx
  | .k :: X,.d :: Y,[]=>simp[Qc] at hx
  | .k :: X,.k :: Y,q :: R =>
   have:=step X Y R (by simp at hm ⊢;omega) (by simpa [Qc] using hx) (by simpa [Qc,Qh] using hy)
   have h2:=Qd2 (U.wid q) false (Qf X R) (Qf Y (rap X R));rw[this] at h2;simpa [rcm,Qf,rap,unit] using h2
  | .k :: X,.d :: Y,q :: R =>
   have:=step X Y R (by simp at hm ⊢;omega) (by simpa [Qc] using hx) (by simpa [Qc,Qh] using hy)
   have h2:=Qd2 (U.wid q) true (Qf X R) (Qf Y (rap X R));rw[this] at h2;simpa [rcm,Qf,rap,unit] using h2
  | .p r :: X,[],R=>simp[Qc,Qh] at hy
  | .k :: X,[],R=>simp[Qc,Qh] at hy
  | [],.k :: Y,R=>simp[Qc,Qh] at hy
  | [],.d :: Y,R=>simp[Qc,Qh] at hy
  | [],[],R=>simp[rcm,Qf,cm]
inductive OpR:List PT→List (RU Int)→List Int→Prop
 | nil:OpR [] [] []
 | put {rs l X R}:rs≠[]→U.AllR rs→OpR l X R→OpR (⟨0,0,U.encs rs⟩ :: l) (rs.map .p++X) R
 | keep {rs l X R}:rs≠[]→OpR l X R→OpR (⟨bl rs,0,[]⟩ :: l) (List.replicate rs.length .k++X) (rs++R)
 | drop {rs l X R}:rs≠[]→OpR l X R→OpR (⟨0,bl rs,[]⟩ :: l) (List.replicate rs.length .d++X) (rs++R)
theorem OpR.append {a b:List PT}{X Y:List (RU Int)}{R S:List Int}(h:OpR a X R)(k:OpR b Y S):OpR (a++b) (X++Y) (R++S):=by
 induction h with
 | nil=>exact k
 | put h1 h2 _ ih=>rw[Wah];exact .put h1 h2 ih
 | keep h1 _ ih=>rw[Wah,Wah];exact .keep h1 ih
 | drop h1 _ ih=>rw[Wah,Wah];exact .drop h1 ih
theorem Qku (rs:List Int)(X:List (RU Int)):Qc (rs.map .p++X)=Qc X:=by
 induction rs with
 | nil=>rfl
 | cons r rs ih=>exact ih
theorem Qkv (n:Nat)(X:List (RU Int)):Qc (List.replicate n .k++X)=n+Qc X:=by
 induction n with
 | zero=>simp
 | succ n ih=>simp only[Wat,Wap,Qc,ih];omega
theorem OpR.was_ {l:List PT}{X:List (RU Int)}{R:List Int}(h:OpR l X R):Qc X=R.length:=by
 induction h with
 | nil=>rfl
 | put _ _ _ ih=>rw[Qku,ih]
 | keep _ _ ih=>rw[Qkv,ih,Wad]
 | drop _ _ ih=>rw[Qft,Qcg,ih,Wad]
theorem Qkw (rs:List Int)(X:List (RU Int))(R:List Int):Qf (rs.map .p++X) R=(U.encs rs).map PT.byte++Qf X R:=by
 induction rs with
 | nil=>rfl
 | cons r rs ih=>simp only[List.map_cons,Wap,Qf,ih,U.encs_cons,Wbo,Wah]
theorem Qkx (rs:List Int)(X:List (RU Int))(R:List Int):Qf (List.replicate rs.length .k++X) (rs++R)=List.replicate (bl rs) PT.k1++Qf X R:=by
 induction rs with
 | nil=>rfl
 | cons r rs ih=>simp only[Wan,Wat,Wap,Qf,ih,Z9];rw[← Wah,List.replicate_append_replicate]
theorem Qky (rs:List Int)(X:List (RU Int))(R:List Int):Qf (List.replicate rs.length .d++X) (rs++R)=List.replicate (bl rs) PT.d1++Qf X R:=by
 induction rs with
 | nil=>rfl
 | cons r rs ih=>simp only[Wan,Wat,Wap,Qf,ih,Z9];rw[← Wah,List.replicate_append_replicate]
theorem ZZ {rs:List Int}(h:rs≠[]):U.encs rs≠[]:=fun e=>by
 have:=ZQ h
 unfold bl at this;rw[e] at this;simp at this
theorem JM:U.Sp [] [] []:=U.sp_encs (rs:=[]) (fun r hr=>by cases hr)
theorem OpR.arg {l:List PT}{X:List (RU Int)}{R:List Int}(h:OpR l X R):∀ p∈l,p.Good:=by
 induction h with
 | nil=>intro p hp;simp at hp
 | put h1 h2 _ ih =>
  intro p hp;rcases Wbk.1 hp with rfl | hp
  ·exact⟨PT.arg_put (ZZ h1),_,U.sp_encs h2⟩
  ·exact ih p hp
 | keep h1 _ ih =>
  intro p hp;rcases Wbk.1 hp with rfl | hp
  ·exact⟨PT.arg_keep (by have:=ZQ h1;omega),[],JM⟩
  ·exact ih p hp
 | drop h1 _ ih =>
  intro p hp;rcases Wbk.1 hp with rfl | hp
  ·exact⟨PT.arg_drop (by have:=ZQ h1;omega),[],JM⟩
  ·exact ih p hp
theorem OpR.expand_ {l:List PT}{X:List (RU Int)}{R:List Int}(h:OpR l X R):Qi l=Qf X R:=by
 induction h with
 | nil=>rfl
 | put h1 h2 _ ih=>rw[XA,Ye,Qkw,ih]
 | keep h1 _ ih =>
  have:=ZQ h1
  rw[XA,Qkx,ih];simp[PT.exp]
 | drop h1 _ ih =>
  have:=ZQ h1
  rw[XA,Qky,ih]
  congr 1
  unfold PT.exp;rw[if_neg (by simp),if_pos (by dsimp only;omega)];simp
theorem OpR.sizes {l:List PT}{X:List (RU Int)}{R:List Int}(h:OpR l X R):was l=bl R∧comes l=bl (rap X R):=by
 induction h with
 | nil=>exact⟨rfl,rfl⟩
 | @put rs l X R h1 h2 _ ih =>
  have e:rap (rs.map .p++X) R=rs++rap X R:=by
   clear h1 h2 ih
   induction rs with
   | nil=>rfl
   | cons r rs ih2=>simp only[List.map_cons,Wap,rap,ih2]
  rw[was,comes,e,bl_append,ih.1,ih.2];unfold bl
  constructor<;>dsimp only<;>omega
 | @keep rs l X R h1 _ ih =>
  have e:rap (List.replicate rs.length .k++X) (rs++R)=rs++rap X R:=by
   clear h1 ih
   induction rs with
   | nil=>rfl
   | cons r rs ih2=>simp only[Wan,Wat,Wap,rap,ih2]
  rw[was,comes,e,bl_append,bl_append,ih.1,ih.2]
  constructor<;>dsimp only[List.length_nil]<;>omega
 | @drop rs l X R h1 _ ih =>
  have e:rap (List.replicate rs.length .d++X) (rs++R)=rap X R:=by
   clear h1 ih
   induction rs with
   | nil=>rfl
   | cons r rs ih2=>simp only[Wan,Wat,Wap,rap,ih2]
  rw[was,comes,e,bl_append,ih.1,ih.2]
  constructor<;>dsimp only[List.length_nil]<;>omega
end
end Go.Proofs.YtckkgdmkfbkaoaaGreatDoor
