/- Texts of the proof. -/
import Derived.Test.YtdgdajnbkfmijaaGreatDoorM48
namespace Go.Proofs.YtdgdajnbkfmijaaGreatDoor
open Go.Proofs.Tryz
set_option maxRecDepth 100000
set_option maxHeartbeats 32000000
section
open Go.RowKit Go.Sort
theorem Qr2:El prog 129 73 1 8:=El.mk' underlying129 (by kernel_rfl) (by decide)
def RNF (g:Nat)(s:SP)(vc:Value)(cs:List CP)(j:Nat):Prop:=j=g∨vc.ownBlock=some j∨s.F j∨∃ (i:Nat) (c:CP),cs[i]?=some c∧c.F j
structure RNI (w wr:World)(g:Nat)(s:SP)(vc:Value)(cs:List CP)(us:List Int)(R:List Int):Prop where
 bel:Below w.heap.size w wr
 blk:Blk wr g 132 #[.pointer (some ⟨s.a,0,none⟩),vc,.slice none 0 0,.int .i64 0]
 srv:SrvR wr (RNF g s vc cs) s (SV.new (U.encs R))
 cli:∀ (i:Nat) (c:CP),cs[i]?=some c→∃ u,us[i]?=some u∧CliR wr (RNF g s vc cs) c (CV.new i u R)
 own:wr.ownsRow w.heap.size 73 1 vc cs.length (ptrs cs)
 ap:∀ (i j:Nat) (c c':CP),i≠j→cs[i]?=some c→cs[j]?=some c'→c.a≠c'.a∧c.f≠c'.f
 new:∀ j,RNF g s vc cs j→w.heap.size≤j
section
variable {w wr w1 w2 w3:World}{g:Nat}{s:SP}{vc v':Value}{cs:List CP}{us R:List Int}{c:CP}{u:Int}
theorem RNI.s_ty (h:RNI w wr g s vc cs us R){j:Nat}(hj:s.F j):j≠g∧vc.ownBlock≠some j:=by
 refine⟨fun e=>?_,fun e=>?_⟩
 ·subst e;have h1:=h.blk.tyo;rcases h.srv.ty hj with h2 | h2 | h2<;>rw[h1] at h2<;>exact absurd h2 (by decide)
 ·have h1:=Zn h.own e;rcases h.srv.ty hj with h2 | h2 | h2<;>rw[h1] at h2<;>exact absurd h2 (by decide)
theorem RNI.c_ty (h:RNI w wr g s vc cs us R){i:Nat}{c:CP}(hc:cs[i]?=some c){j:Nat}(hj:c.F j):j≠g∧vc.ownBlock≠some j:=by
 obtain⟨u,-,hC⟩:=h.cli i c hc;obtain⟨t1,t2⟩:=hC.ty;refine⟨fun e=>?_,fun e=>?_⟩
 ·have h1:=h.blk.tyo;rcases hj with e1 | e1
  ·rw[← e1,e,h1] at t1;exact absurd t1 (by decide)
  ·rw[← e1,e,h1] at t2;exact absurd t2 (by decide)
 ·have h1:=Zn h.own e;rcases hj with e1 | e1
  ·rw[e1,t1] at h1;exact absurd h1 (by decide)
  ·rw[e1,t2] at h1;exact absurd h1 (by decide)
theorem RNI.g_ty (h:RNI w wr g s vc cs us R):vc.ownBlock≠some g:=fun e=>by
 have h1:=Zn h.own e;rw[h.blk.tyo] at h1;exact absurd h1 (by decide)
theorem RNI.more (h:RNI w wr g s vc cs us R)(hu:us[cs.length]?=some u)(h1:Below wr.heap.size wr w1)(hc:∀ j,c.F j→wr.heap.size≤j)(hcl:∀ F,(∀ j,c.F j→F j)→(∀ j,F j→c.F j∨j<wr.heap.size)→CliR w1 F c (CV.new cs.length u R))
  (h2:Below w1.heap.size w1 w2) (h3:w3.ownsRow w.heap.size 73 1 v' (cs.length+1) (ptrs cs++[.pointer (some ⟨c.a,0,none⟩)])) (hg:w2.grownBy w3 vc.ownBlock) (hn:∀ k,v'.ownBlock=some k→vc.ownBlock=some k∨w2.heap.size≤k) :
  RNI w (w3.setCell ⟨g,1,none⟩ v') g s v' (cs++[c]) us R:=by
 have z0:=h.bel.size;have z1:=h1.size;have z2:=h2.size;have hlt:=h.srv.flt;have hO3:Only (fun j=>j=g) w3 (w3.setCell ⟨g,1,none⟩ v'):=(Only.refl (fun j=>j=g) w3).setCell (p:=⟨g,1,none⟩) (.inl rfl) _;have hO2:=Zzz hg;have z3:=hO2.size;have z4:=hO3.size;have hgo:∀ G0 w0,Only G0 w0 w2→(∀ j,G0 j→False)→Only (fun j=>j=g∨vc.ownBlock=some j) w0 (w3.setCell ⟨g,1,none⟩ v'):=fun G0 w0 h0 h0f=>((h0.mono (fun j _ e=>(h0f j e).elim)).trans (hO2.mono (fun j _ e=>.inr e.symm))).trans (hO3.mono (fun j _ e=>.inl e))
 have hOr:=hgo _ wr (Only.of_below (S:=fun _=>False) (Qb h1 h2)) (fun _ e=>e);have hO1:=hgo _ w1 (Only.of_below (S:=fun _=>False) h2) (fun _ e=>e);have hget:∀ i ci,(cs++[c])[i]?=some ci→cs[i]?=some ci∨(i=cs.length∧ci=c):=fun i ci hi=>getElem?_snoc hi
 have hlast:(cs++[c])[cs.length]?=some c:=by simp
 have hin:∀ i ci,cs[i]?=some ci→(cs++[c])[i]?=some ci:=fun i ci hi=>by rw[List.getElem?_append_left (Wai.1 hi).1];exact hi
 have hF:∀ j,RNF g s v' (cs++[c]) j→RNF g s vc cs j∨c.F j∨(v'.ownBlock=some j∧w2.heap.size≤j):=by
  rintro j (e | e | e | ⟨i,ci,hi,e⟩)
  ·exact .inl (.inl e)
  ·rcases hn j e with e2 | e2
   ·exact .inl (.inr (.inl e2))
   ·exact .inr (.inr ⟨e,e2⟩)
  ·exact .inl (.inr (.inr (.inl e)))
  ·rcases hget i ci hi with hi | ⟨-,rfl⟩
   ·exact .inl (.inr (.inr (.inr ⟨i,ci,hi,e⟩)))
   ·exact .inr (.inl e)
 have hgr:Grow (RNF g s vc cs) (RNF g s v' (cs++[c])) wr.heap.size:=fun j hj=>by
  rcases hF j hj with e | e | e
  ·exact .inl e
  ·exact .inr (hc j e)
  ·exact .inr (by omega)
 have hG:∀ j,(j=g∨vc.ownBlock=some j)→RNF g s vc cs j:=fun j hj=>hj.elim .inl (fun e=>.inr (.inl e))
 have hcv:=hcl (fun j=>RNF g s vc cs j∨c.F j) (fun _ e=>.inr e) (fun j hj=>hj.elim (fun e=>.inr (hlt j e)) .inl)
 have hfl:∀ j,RNF g s v' (cs++[c]) j→j<(w3.setCell ⟨g,1,none⟩ v').heap.size:=fun j hj=>by
  have hz:w3.heap.size≤(w3.setCell ⟨g,1,none⟩ v').heap.size:=z4;rcases hF j hj with e | e | ⟨e,-⟩
  ·have:=hlt j e;omega
  ·have:=hcv.lt j e;omega
  ·have:=(h3.lt j e).2;omega
 have hcG:∀ j,c.F j→¬ (j=g∨vc.ownBlock=some j):=fun j hj e=>by
  have:=hlt j (hG j e)
  have:=hc j hj
  omega
 have hng:v'.ownBlock≠some g:=fun e=>by
  rcases hn g e with e | e
  ·exact h.g_ty e
  ·have:=h.blk.lt;omega
 have hcf:∀ (i:Nat) (ci:CP),cs[i]?=some ci→ci.a≠c.a∧ci.f≠c.f:=fun i ci hi=>by
  obtain⟨u',-,hC⟩:=h.cli i ci hi;have a1:=hC.lt ci.a (.inl rfl);have a2:=hC.lt ci.f (.inr rfl);have b1:=hc c.a (.inl rfl);have b2:=hc c.f (.inr rfl)
  exact⟨by omega,by omega⟩
 refine⟨⟨?_,?_,?_,?_,?_⟩,?_,?_,?_,?_,?_,?_⟩
 ·exact hOr.os.trans h.bel.os
 ·exact hOr.tape.trans h.bel.tape
 ·exact hOr.output.trans h.bel.output
 ·exact Wbf z0 hOr.size
 ·intro k hk;exact (hOr.block k (by omega) (fun e=>by have:=h.new k (hG k e);omega)).trans (h.bel.block k hk)
 ·exact (((h.blk.below h1 h.blk.lt).below h2 (Wal h.blk.lt z1)).only hO2 (fun e=>h.g_ty e.symm)).set_ 1 v'
 ·exact h.srv.only hOr hG (fun j hj e=>e.elim (h.s_ty hj).1 (h.s_ty hj).2) hgr (fun j hj=>.inr (.inr (.inl hj))) hfl
 ·intro i ci hi;rcases hget i ci hi with hi | ⟨rfl,rfl⟩
  ·obtain⟨u',hu',hC⟩:=h.cli i ci hi
   exact⟨u',hu',hC.only hOr hG (fun j hj e=>e.elim (h.c_ty hi hj).1 (h.c_ty hi hj).2) hgr (fun j hj=>.inr (.inr (.inr ⟨i,ci,hin i ci hi,hj⟩))) hfl⟩
  ·exact⟨u,hu,hcv.only hO1 (fun j e=>.inl (hG j e)) hcG (fun j hj=>by
    rcases hF j hj with e | e | e
    ·exact .inl (.inl e)
    ·exact .inl (.inr e)
    ·exact .inr (by omega)) (fun j hj=>.inr (.inr (.inr ⟨_,_,hlast,hj⟩))) hfl⟩
 ·rw[Wad];have e:ptrs (cs++[c])=ptrs cs++[.pointer (some ⟨c.a,0,none⟩)]:=by unfold ptrs;simp
  rw[e];exact Qt h3 hO3 (fun k hk e=>hng (by rw[hk,e]))
 ·intro i j ci cj hij hi hj;rcases hget i ci hi with hi' | ⟨rfl,rfl⟩<;>rcases hget j cj hj with hj' | ⟨rfl,rfl⟩
  ·exact h.ap i j ci cj hij hi' hj'
  ·exact hcf i ci hi'
  ·obtain⟨b1,b2⟩:=hcf j cj hj'
   exact⟨fun e=>b1 e.symm,fun e=>b2 e.symm⟩
  ·exact absurd rfl hij
 ·intro j hj;rcases hF j hj with e | e | e
  ·exact h.new j e
  ·have:=hc j e;omega
  ·omega
theorem RNI.done (h:RNI w wr g s vc cs us R)(hl:cs.length=us.length)(hd:Hdl w):∃ r:RP,r.a=g∧(∀ j,r.F j→w.heap.size≤j)∧RmR wr r.F r (RM.new R us):=by
 obtain⟨r,hr⟩:∃ r:RP,r=⟨g,s,vc,cs,.slice none 0 0,[]⟩:=⟨_,rfl⟩
 have hF:∀ j,r.F j→RNF g s vc cs j:=by
  rw[hr];rintro j (e | e | ⟨i,c,hi,e⟩ | e)
  ·exact .inl e
  ·exact .inr (.inr (.inl e))
  ·exact .inr (.inr (.inr ⟨i,c,hi,e⟩))
  ·cases e
 have hgr:Grow (RNF g s vc cs) r.F wr.heap.size:=fun j hj=>.inl (hF j hj)
 have hfl:∀ j,r.F j→j<wr.heap.size:=fun j hj=>h.srv.flt j (hF j hj)
 have hnf:∀ j,vc.ownBlock=some j→¬ r.F j:=fun j hv hj=>by
  rw[hr] at hj;rcases hj with e | e | ⟨i,c,hi,e⟩ | e
  ·exact h.g_ty (by rw[hv,e])
  ·exact (h.s_ty e).2 hv
  ·exact (h.c_ty hi e).2 hv
  ·cases e
 have hO:Only (fun _=>False) wr wr:=Only.refl _ _;have hdl:Zw r.F wr:=⟨hd.below h.bel,fun e=>by have:=h.new _ (hF _ e);have:=hd.lt;omega⟩;have hsv:SrvR wr r.F s (SV.new (U.encs R)):=h.srv.only hO (fun _ e=>e.elim) (fun _ _ e=>e) hgr (fun j hj=>by rw[hr];exact .inr (.inl hj)) hfl;refine⟨r,by rw[hr],fun j hj=>h.new j (hF j hj),?_⟩;subst hr;refine⟨hdl,h.blk,hsv,?_,fun k c C hc hC=>?_,Sl.of_own h.own,fun ad n c' e hn=>?_,World.ownsRow_nil _ _ _ _,rfl,(fun x hx=>by cases hx),h.ap,fun _ e=>e,hfl⟩
 ·show cs.length=(us.zipIdx.map _).length
  rw[Wbi,List.length_zipIdx,hl]
 ·obtain⟨u,hu,hC'⟩:=h.cli k c hc;obtain⟨u',hu',rfl⟩:=RM.new_cl hC;obtain rfl:=getElem?_uniq hu hu';exact hC'.only hO (fun _ e=>e.elim) (fun _ _ e=>e) hgr (fun j hj=>.inr (.inr (.inl ⟨k,c,hc,hj⟩))) hfl
 ·have e:vc=.slice (some ad) n c':=e;exact hnf _ (by rw[e];rfl)
end
theorem RNI.start {w w1:World}{s:SP}{us R:List Int}(h1:Below w.heap.size w w1)(hF:∀ j,s.F j→w.heap.size≤j)(hs:SrvR w1 s.F s (SV.new (U.encs R))) :
  RNI w (w1.alloc (.cells #[.pointer (some ⟨s.a,0,none⟩),.slice none 0 0,.slice none 0 0,.int .i64 0] 132)) w1.heap.size s (.slice none 0 0) [] us R:=by
 have z1:=h1.size;have hb:Below w1.heap.size w1 (w1.alloc (.cells #[.pointer (some ⟨s.a,0,none⟩),.slice none 0 0,.slice none 0 0,.int .i64 0] 132)):=Qa (Wac _ _) _
 have hN:∀ j,RNF w1.heap.size s (.slice none 0 0) [] j→j=w1.heap.size∨s.F j:=by
  rintro j (e | e | e | ⟨i,c,hi,-⟩)
  ·exact .inl e
  ·cases e
  ·exact .inr e
  ·cases hi
 refine⟨Qa h1 _,Blk.new w1 _ _,hs.only (G:=fun _=>False) (Only.of_below hb) (fun _ e=>e.elim) (fun _ _ e=>e) (fun j hj=>(hN j hj).elim (fun e=>.inr (by omega)) .inl) (fun j hj=>.inr (.inr (.inl hj))) (fun j hj=>?_),(fun i c hi=>by cases hi),World.ownsRow_nil _ _ _ _,(fun i j c c' _ hi=>by cases hi),fun j hj=>(hN j hj).elim (fun e=>by omega) (hF j)⟩;rw[Waq];rcases hN j hj with e | e
 ·omega
 ·have:=hs.flt j e;omega
theorem Qr3 (c:CP):∀ u∈([.pointer (some ⟨c.a,0,none⟩)]:List Value),u.oneCell'=true:=by
 intro u hu;obtain rfl:=Wbd.1 hu
 rfl
def Qr4 (rs:List Int)(rest:U.Bs)(us:List Int)(w:World)(e:Ending)(w':World):Prop :=
 Below w.heap.size w w'∧(rest≠[]→∃ g,e=.returned (.tuple #[.pointer none,atV g])∧QV w' g 3 (bl rs)) ∧
  (rest=[]→2000<bl rs→e=.returned (.tuple #[.pointer none,errno 12])) ∧
  (rest=[]→bl rs≤2000→6<us.length→e=.returned (.tuple #[.pointer none,errno 4])) ∧
  (rest=[]→bl rs≤2000→us.length≤6→(∃ u∈us,¬ (1≤u∧u≤3))→e=.returned (.tuple #[.pointer none,errno 1])) ∧
  (rest=[]→bl rs≤2000→us.length≤6→(∀ u∈us,1≤u∧u≤3)→∃ r:RP,e=.returned (.tuple #[.pointer (some ⟨r.a,0,none⟩),.nilIface])∧(∀ j,r.F j→w.heap.size≤j)∧RmR w' r.F r (RM.new rs us))
theorem Qr5 {s:U.Bs}{rs:List Int}{rest:U.Bs}{us:List Int}{vu:Value}{n:Nat}{w:World}(hsp:U.Sp s rs rest)(hs:s.length≤1000000)(hd:Hdl w)(hus:Sl w 1 vu n (us.map fun u=>.int .i64 u)) :
  Calls prog 23 #[.string ⟨s.toArray⟩,vu] w (Qr4 rs rest us w):=by
 have hn:us.length=n:=by have:=hus.len;rw[Wbi] at this;omega
 have HSN:=Hm (Qmh hsp hs w);have HALL:=Hm hsp.all;have HSPE:=Hm hsp.eq;have HD:=Hm hd;have HUS:=Hm hus;have HNL:=Hm hn;obtain⟨A,cu,rfl,-⟩:=hus
 by_cases hr:rest=[]
 ·by_cases hbl:2000<bl rs
  ·have HR:=Hm (Wao hr hbl);clear hsp hd hn hr hbl hs;go_enter func23,ntmps23
   go_wp2_with (go_at_call 7;refine HSN.o.mono ?_;rintro e w1 ⟨hb1,-,h1,-⟩;obtain rfl:=h1 HR.o.1 HR.o.2;unfold errno;have HB1:=Hm hb1;clear hb1 h1)
   go_ret2
   exact⟨HB1.o,fun e=>absurd HR.o.1 e,fun _ _=>rfl,fun _ h=>absurd HR.o.2 (by omega),fun _ h=>absurd HR.o.2 (by omega),fun _ h=>absurd HR.o.2 (by omega)⟩
  ·have hbl':bl rs≤2000:=by omega
   have HR:=Hm (Wao hr hbl')
   by_cases h6:6<n
   ·have H6:=Hm h6;have hi6:(6:Int)<(n:Int):=by omega
    clear hsp hd hn hr hbl hs hbl' h6;go_enter func23,ntmps23
    go_wp2_with (go_at_call 7;refine HSN.o.mono ?_;rintro e w1 ⟨hb1,-,-,h1⟩;obtain⟨s1,rfl,hs1,hs2,hs3⟩:=h1 HR.o.1 HR.o.2;have HB1:=Hm hb1;clear hb1 h1 hs1 hs2 hs3)
    go_ret2
    exact⟨HB1.o,fun e=>absurd HR.o.1 e,fun _ h=>absurd HR.o.2 (by omega),fun _ _ _=>rfl,fun _ _ h=>absurd H6.o (by rw[HNL.o] at h;omega),fun _ _ h=>absurd H6.o (by rw[HNL.o] at h;omega)⟩
   ·have hi6:¬ (6:Int)<(n:Int):=by omega
    have hn6:n≤6:=by omega
    obtain rfl:s=U.encs rs:=by have:=hsp.eq;rw[hr] at this;simpa using this
    clear hsp hd hn hr hbl hs hbl' h6;go_enter func23,ntmps23
    go_wp2_with (go_at_call 7;refine HSN.o.mono ?_;rintro e w1 ⟨hb1,-,-,h1⟩;obtain⟨s1,rfl,hs1,hs2,hs3⟩:=h1 HR.o.1 HR.o.2;have HB1:=Hm hb1;have HS1:=Hm (Wao hs1 (Wao hs2 hs3));clear hb1 h1 hs1 hs2 hs3)
    have HST:=Hm (RNI.start (us:=us) HB1.o HS1.o.1 HS1.o.2.2);have hne:us.length=n:=HNL.o
    go_loopw [30] (fun i wr=>∃ (k:Nat) (vc:Value) (cs:List CP),k≤n∧i=.int .i64 k∧cs.length=k∧RNI w wr w1.heap.size s1 vc cs us rs∧(∀ j,j<k→∀ u,us[j]?=some u→1≤u∧u≤3)) (fun i _=>n-(intOf i).toNat)
    case atStart=>exact⟨0,_,_,by omega,rfl,rfl,HST.o,fun j hj=>by omega⟩
    case round =>
     obtain⟨k,vc,cs,hk,rfl,hcl,hI,hall⟩:=hrel;have HI:=Hm (Wao hcl hI);have HAL:=Hm hall;have hkb:k≤6:=by omega
     obtain⟨z0,z1,z2,z3⟩:=Qk hI.blk;obtain⟨Av,cv,hvc⟩:=Qg hI.own;rw[hvc,hcl] at z1;have fz:=hI.blk.frozen;have lt:=hI.blk.lt;have HVC:=Hm hvc;clear hcl hI hall HST hvc hne
     by_cases hkn:k<n
     ·obtain⟨u,hu⟩:∃ u,us[k]?=some u:=⟨_,Waj (by rw[HNL.o];exact hkn)⟩;obtain⟨b,o,cc,hv,hbb,c0⟩:=(HUS.o.below HI.o.2.bel).one_at hkn (u:=.int .i64 u) (by rw[Wav,hu];rfl)
      cases hv
      have HCN:=Hm (Qpw HALL.o HR.o.2 (k:Int) u wr);have HU:=Hm hu;clear hu
      by_cases hg:1≤u∧u≤3
      ·have HG:=Hm hg;clear hg
       go_wp2_with (first
        | (go_at_call 62;refine HCN.o.mono ?_;rintro e w2 ⟨hb2,-,h2⟩;obtain⟨c,rfl,hc1,hc2⟩:=h2 HG.o;have HB2:=Hm hb2;have HC2:=Hm (Wao hc1 hc2);obtain⟨y0,y1,y2,y3⟩:=Qk (HI.o.2.blk.below hb2 lt);have yf:=(HI.o.2.blk.below hb2 lt).frozen;have yl:=(HI.o.2.blk.below hb2 lt).lt;rw[HVC.o,HI.o.1] at y1;have how2:=Qt HI.o.2.own (Only.of_below (S:=fun _=>False) hb2) (fun _ _ e=>e);rw[HVC.o,HI.o.1] at how2;have HOW2:=Hm how2;clear hb2 h2 hc1 hc2 how2)
        | (at_builtin;refine Qx Qr2 #[.pointer (some ⟨c.a,0,none⟩)] HOW2.o rfl rfl rfl rfl (by simp) rfl (Qr3 c) (by unfold maxLen;omega) (by omega) (by have:=HI.o.2.bel.size;have:=HB2.o.size;omega) ?_;intro v3 w3 hown3 hbel3 hgr3 hnew3;have HO3:=Hm hown3;obtain⟨A3,k3,rfl⟩:=Qg hown3;have hbk3:=(HI.o.2.blk.below HB2.o lt).only (Zzz hgr3) (fun e=>HI.o.2.g_ty (by rw[HVC.o,HI.o.1];exact e.symm));have HGR3:=Hm hgr3;have HNW3:=Hm hnew3;obtain⟨x0,x1,x2,x3⟩:=Qk hbk3;have xf:=hbk3.frozen;have xl:=hbk3.lt;rw[HVC.o,HI.o.1] at x1;clear hown3 hbel3 hgr3 hnew3 hbk3))
       refine⟨⟨k+1,.slice A3 (k+1) k3,cs++[c],by omega,by go_num,by simp[HI.o.1],?_,?_⟩,by simp only[intOf];omega⟩
       ·have hvq:vc=.slice Av k cv:=by rw[HVC.o,HI.o.1]
        have g1:=HGR3.o;have g2:=HNW3.o;rw[← hvq] at g1 g2;have hk:=HI.o.1;subst hk;exact HI.o.2.more HU.o HB2.o HC2.o.1 HC2.o.2 (Wac _ _) HO3.o g1 g2
       ·intro j hj u' hu'
        by_cases hjk:j<k
        ·exact HAL.o j hjk u' hu'
        ·obtain rfl:j=k:=by omega
         obtain rfl:=getElem?_uniq HU.o hu';exact HG.o
      ·have HG:=Hm hg;clear hg;go_wp2_with (go_at_call 62;refine HCN.o.mono ?_;rintro e w2 ⟨hb2,h2,-⟩;obtain rfl:=h2 HG.o;unfold errno;have HB2:=Hm hb2;clear hb2 h2)
       go_ret2;refine⟨Qb HI.o.2.bel HB2.o,fun e=>absurd HR.o.1 e,fun _ h=>absurd HR.o.2 (by omega),fun _ _ h=>absurd h (by rw[HNL.o];omega),fun _ _ _ _=>rfl,fun _ _ _ h=>absurd (h u (List.mem_of_getElem? HU.o)) HG.o⟩
     ·obtain rfl:k=n:=by omega
      clear z1 z2 z3;go_wp2_with fail;go_ret2;obtain⟨r,hr1,hr2,hr3⟩:=HI.o.2.done (by rw[HI.o.1,HNL.o]) HD.o;refine⟨HI.o.2.bel,fun e=>absurd HR.o.1 e,fun _ h=>absurd HR.o.2 (by omega),fun _ _ h=>absurd h (by rw[HNL.o];omega),fun _ _ _ ⟨u,hu,hg⟩=>?_,fun _ _ _ _=>⟨r,by rw[hr1];rfl,hr2,hr3⟩⟩;obtain⟨j,hj⟩:=List.mem_iff_getElem?.1 hu;exact absurd (HAL.o j (by have:=(Wai.1 hj).1;rw[HNL.o] at this;exact this) u hj) hg
 ·have HR:=Hm hr;clear hsp hd hn hr hs;go_enter func23,ntmps23
  go_wp2_with (go_at_call 7;refine HSN.o.mono ?_;rintro e w1 ⟨hb1,h1,-⟩;obtain⟨g,rfl,hg⟩:=h1 HR.o;unfold atV;have HB1:=Hm hb1;have HG:=Hm hg;clear hb1 h1 hg)
  go_ret2
  exact⟨HB1.o,fun _=>⟨g,rfl,HG.o⟩,fun e=>absurd e HR.o,fun e=>absurd e HR.o,fun e=>absurd e HR.o,fun e=>absurd e HR.o⟩
end
section
open Go.RowKit Go.Sort
section
variable {F:Nat→Prop}{w w1 w2:World}{r r1:RP}{R R':RM}{N B:Int}
theorem Qsi {k:Nat}{C:CV}{c:CP}{l:List PT}{v:Value}(h:RmR w F r R)(hb:RMb N B R)(hN:N≤1000000)(hC:R.cl[k]?=some C)(hc:r.cs[k]?=some c)(hx:OpO F w v l)(hn:l.length≤100000) :
  Calls prog 35 #[.pointer (some ⟨c.a,0,none⟩),v] w fun e w'=>e=.returned (QC (C.edit l).1)∧RmS F r (R.edit k l) w w':=by
 refine (Qtp (h.cli k c C hc hC) h.hd (hb.ok.cl k C hC).ok hN hx hn).mono ?_;intro e w' hp;have e2:R.edit k l=R.setc k (C.edit l).2:=by unfold RM.edit;rw[hC]
 rw[e2];exact h.client hc hC hp
end
end
section
open Go.RowKit Go.Sort
section
attribute [local go_sem] Qr
variable {F:Nat→Prop}{w:World}{r:RP}{R:RM}{N B:Int}
end
end
section
open Go.RowKit Go.Sort
section
attribute [local go_sem] Qr
variable {F:Nat→Prop}{w:World}{r:RP}{R:RM}{N B:Int}
end
end
section
open Go.RowKit Go.Sort
theorem OpO.argR {w w3:World}{F:Nat→Prop}{v:Value}{l:List PT}(h:Sl w 3 v l.length (opv l))(hb:Below w.heap.size w w3)(hF:∀ j,F j→w.heap.size≤j):OpO F w3 v l:=by
 refine⟨h.below hb,fun ad n c e hn hf=>?_⟩;obtain⟨A,c',e',-,-,-,-,h5⟩:=h;rw[e'] at e
 cases e
 obtain⟨ad',e2,hb2,-⟩:=h5 hn
 cases e2
 have:=hF _ hf
 omega
section
variable {w wr w':World}{ra:Nat}{R R':RM}{r:RP}
end
end
end Go.Proofs.YtdgdajnbkfmijaaGreatDoor
