/- Texts of the proof. -/
import Derived.Test.YtdgdajnbkfmijaaGreatDoorM49
import Derived.Test.YtdgdajnbkfmijaaGreatDoorM50
namespace Go.Proofs.YtdgdajnbkfmijaaGreatDoor
open Go.Proofs.Tryz
set_option maxRecDepth 100000
set_option maxHeartbeats 32000000
section
open Go.RowKit Go.Sort
theorem OpO.none_ {w:World}{F F':Nat→Prop}{v:Value}(h:OpO F w v []):OpO F' w v []:=by
 refine⟨h.1,fun ad n c e hn=>?_⟩;obtain⟨A,c',e',-⟩:=h.1;rw[e'] at e
 cases e
 exact absurd hn (by simp)
theorem Qrw:El prog 83 88 1 8:=El.mk' underlying83 (by kernel_rfl) (by decide)
def Zy (g B:Nat)(s:RSP)(vc:Value)(cs:List RCP)(j:Nat):Prop:=(j=g∨j=B)∨vc.ownBlock=some j∨s.F j∨∃ (i:Nat) (c:RCP),cs[i]?=some c∧c.F j
structure RRNI (w wr:World)(g B:Nat)(s:RSP)(vc:Value)(cs:List RCP)(us:List Int)(R:List Int):Prop where
 bel:Below w.heap.size w wr
 blk:Blk wr g 86 #[.pointer (some ⟨s.a,0,none⟩),vc,.slice none 0 0,.int .i64 0]
 srv:RSrvR wr (Zy g B s vc cs) s (SV.new (U.encs R))
 cli:∀ (i:Nat) (c:RCP),cs[i]?=some c→∃ u,us[i]?=some u∧RCliR wr (Zy g B s vc cs) c (CV.new i u R)
 own:wr.ownsRow w.heap.size 88 1 vc cs.length (Zf cs)
 ap:∀ (i j:Nat) (c c':RCP),i≠j→cs[i]?=some c→cs[j]?=some c'→c.a≠c'.a
 new:∀ j,Zy g B s vc cs j→w.heap.size≤j
section
variable {w wr w1 w2 w3:World}{g B:Nat}{s:RSP}{vc v':Value}{cs:List RCP}{us R:List Int}{c:RCP}{u:Int}
theorem RRNI.s_ty (h:RRNI w wr g B s vc cs us R){j:Nat}(hj:s.F j):j≠g∧vc.ownBlock≠some j:=by
 refine⟨fun e=>?_,fun e=>?_⟩
 ·subst e;have h1:=h.blk.tyo;rcases h.srv.ty hj with h2 | h2 | h2 | h2<;>rw[h1] at h2<;>exact absurd h2 (by decide)
 ·have h1:=Zn h.own e;rcases h.srv.ty hj with h2 | h2 | h2 | h2<;>rw[h1] at h2<;>exact absurd h2 (by decide)
theorem RRNI.c_ty (h:RRNI w wr g B s vc cs us R){i:Nat}{c:RCP}(hc:cs[i]?=some c){j:Nat}(hj:c.F j):j≠g∧vc.ownBlock≠some j:=by
 obtain⟨u,-,hC⟩:=h.cli i c hc;have t1:=hC.ty;have e1:j=c.a:=hj;refine⟨fun e=>?_,fun e=>?_⟩
 ·have h1:=h.blk.tyo;rw[← e1,e,h1] at t1;exact absurd t1 (by decide)
 ·have h1:=Zn h.own e;rw[e1,t1] at h1;exact absurd h1 (by decide)
theorem RRNI.g_ty (h:RRNI w wr g B s vc cs us R):vc.ownBlock≠some g:=fun e=>by
 have h1:=Zn h.own e;rw[h.blk.tyo] at h1;exact absurd h1 (by decide)
theorem RRNI.more (h:RRNI w wr g B s vc cs us R)(hu:us[cs.length]?=some u)(h1:Below wr.heap.size wr w1)(hc:∀ j,c.F j→wr.heap.size≤j)(hcl:∀ F,(∀ j,c.F j→F j)→(∀ j,F j→c.F j∨j<wr.heap.size)→RCliR w1 F c (CV.new cs.length u R))
  (h2:Below w1.heap.size w1 w2) (h3:w3.ownsRow w.heap.size 88 1 v' (cs.length+1) (Zf cs++[.pointer (some ⟨c.a,0,none⟩)])) (hg:w2.grownBy w3 vc.ownBlock) (hn:∀ k,v'.ownBlock=some k→vc.ownBlock=some k∨w2.heap.size≤k) :
  RRNI w (w3.setCell ⟨g,1,none⟩ v') g B s v' (cs++[c]) us R:=by
 have z0:=h.bel.size;have z1:=h1.size;have z2:=h2.size;have hlt:=h.srv.flt;have hO3:Only (fun j=>j=g) w3 (w3.setCell ⟨g,1,none⟩ v'):=(Only.refl (fun j=>j=g) w3).setCell (p:=⟨g,1,none⟩) (.inl rfl) _;have hO2:=Zzz hg;have z3:=hO2.size;have z4:=hO3.size;have hgo:∀ G0 w0,Only G0 w0 w2→(∀ j,G0 j→False)→Only (fun j=>j=g∨vc.ownBlock=some j) w0 (w3.setCell ⟨g,1,none⟩ v'):=fun G0 w0 h0 h0f=>((h0.mono (fun j _ e=>(h0f j e).elim)).trans (hO2.mono (fun j _ e=>.inr e.symm))).trans (hO3.mono (fun j _ e=>.inl e))
 have hOr:=hgo _ wr (Only.of_below (S:=fun _=>False) (Qb h1 h2)) (fun _ e=>e);have hO1:=hgo _ w1 (Only.of_below (S:=fun _=>False) h2) (fun _ e=>e);have hget:∀ i ci,(cs++[c])[i]?=some ci→cs[i]?=some ci∨(i=cs.length∧ci=c):=fun i ci hi=>getElem?_snoc hi
 have hlast:(cs++[c])[cs.length]?=some c:=by simp
 have hin:∀ i ci,cs[i]?=some ci→(cs++[c])[i]?=some ci:=fun i ci hi=>by rw[List.getElem?_append_left (Wai.1 hi).1];exact hi
 have hF:∀ j,Zy g B s v' (cs++[c]) j→Zy g B s vc cs j∨c.F j∨(v'.ownBlock=some j∧w2.heap.size≤j):=by
  rintro j (e | e | e | ⟨i,ci,hi,e⟩)
  ·exact .inl (.inl e)
  ·rcases hn j e with e2 | e2
   ·exact .inl (.inr (.inl e2))
   ·exact .inr (.inr ⟨e,e2⟩)
  ·exact .inl (.inr (.inr (.inl e)))
  ·rcases hget i ci hi with hi | ⟨-,rfl⟩
   ·exact .inl (.inr (.inr (.inr ⟨i,ci,hi,e⟩)))
   ·exact .inr (.inl e)
 have hgr:Grow (Zy g B s vc cs) (Zy g B s v' (cs++[c])) wr.heap.size:=fun j hj=>by
  rcases hF j hj with e | e | e
  ·exact .inl e
  ·exact .inr (hc j e)
  ·exact .inr (by omega)
 have hG:∀ j,(j=g∨vc.ownBlock=some j)→Zy g B s vc cs j:=fun j hj=>hj.elim (fun e=>.inl (.inl e)) (fun e=>.inr (.inl e))
 have hcv:=hcl (fun j=>Zy g B s vc cs j∨c.F j) (fun _ e=>.inr e) (fun j hj=>hj.elim (fun e=>.inr (hlt j e)) .inl)
 have hfl:∀ j,Zy g B s v' (cs++[c]) j→j<(w3.setCell ⟨g,1,none⟩ v').heap.size:=fun j hj=>by
  have hz:w3.heap.size≤(w3.setCell ⟨g,1,none⟩ v').heap.size:=z4;rcases hF j hj with e | e | ⟨e,-⟩
  ·have:=hlt j e;omega
  ·have:=hcv.flt j (hcv.sub j e);omega
  ·have:=(h3.lt j e).2;omega
 have hcG:∀ j,c.F j→¬ (j=g∨vc.ownBlock=some j):=fun j hj e=>by
  have:=hlt j (hG j e)
  have:=hc j hj
  omega
 have hng:v'.ownBlock≠some g:=fun e=>by
  rcases hn g e with e | e
  ·exact h.g_ty e
  ·have:=h.blk.lt;omega
 have hcf:∀ (i:Nat) (ci:RCP),cs[i]?=some ci→ci.a≠c.a:=fun i ci hi=>by
  obtain⟨u',-,hC⟩:=h.cli i ci hi;have a1:=hC.flt ci.a (hC.sub ci.a rfl);have b1:=hc c.a rfl;omega
 refine⟨⟨?_,?_,?_,?_,?_⟩,?_,?_,?_,?_,?_,?_⟩
 ·exact hOr.os.trans h.bel.os
 ·exact hOr.tape.trans h.bel.tape
 ·exact hOr.output.trans h.bel.output
 ·exact Wbf z0 hOr.size
 ·intro k hk;exact (hOr.block k (by omega) (fun e=>by have:=h.new k (hG k e);omega)).trans (h.bel.block k hk)
 ·exact (((h.blk.below h1 h.blk.lt).below h2 (Wal h.blk.lt z1)).only hO2 (fun e=>h.g_ty e.symm)).set_ 1 v'
 ·exact h.srv.only hOr hG (fun j hj e=>e.elim (h.s_ty hj).1 (h.s_ty hj).2) hgr (fun j hj=>.inr (.inr (.inl hj))) hfl
 ·intro i ci hi;rcases hget i ci hi with hi | ⟨rfl,rfl⟩
  ·obtain⟨u',hu',hC⟩:=h.cli i ci hi
   exact⟨u',hu',hC.only hOr hG (fun j hj e=>e.elim (h.c_ty hi hj).1 (h.c_ty hi hj).2) hgr (fun j hj=>.inr (.inr (.inr ⟨i,ci,hin i ci hi,hj⟩))) hfl⟩
  ·exact⟨u,hu,hcv.only hO1 (fun j e=>.inl (hG j e)) hcG (fun j hj=>by
    rcases hF j hj with e | e | e
    ·exact .inl (.inl e)
    ·exact .inl (.inr e)
    ·exact .inr (by omega)) (fun j hj=>.inr (.inr (.inr ⟨_,_,hlast,hj⟩))) hfl⟩
 ·rw[Wad];have e:Zf (cs++[c])=Zf cs++[.pointer (some ⟨c.a,0,none⟩)]:=by unfold Zf;simp
  rw[e];exact Qt h3 hO3 (fun k hk e=>hng (by rw[hk,e]))
 ·intro i j ci cj hij hi hj;rcases hget i ci hi with hi' | ⟨rfl,rfl⟩<;>rcases hget j cj hj with hj' | ⟨rfl,rfl⟩
  ·exact h.ap i j ci cj hij hi' hj'
  ·exact hcf i ci hi'
  ·exact fun e=>hcf j cj hj' e.symm
  ·exact absurd rfl hij
 ·intro j hj;rcases hF j hj with e | e | e
  ·exact h.new j e
  ·have:=hc j e;omega
  ·omega
theorem RRNI.done (h:RRNI w wr g B s vc cs us R)(hl:cs.length=us.length):∃ r:RRP,r.a=g∧(∀ j,r.F j→w.heap.size≤j)∧∀ F',(∀ j,r.F j→F' j)→(∀ j,F' j→r.F j∨j<w.heap.size)→RRmR wr F' r (RM.new R us):=by
 obtain⟨r,hr⟩:∃ r:RRP,r=⟨g,s,vc,cs,.slice none 0 0,[]⟩:=⟨_,rfl⟩
 have hF:∀ j,r.F j→Zy g B s vc cs j:=by
  rw[hr];rintro j (e | e | ⟨i,c,hi,e⟩ | e)
  ·exact .inl (.inl e)
  ·exact .inr (.inr (.inl e))
  ·exact .inr (.inr (.inr ⟨i,c,hi,e⟩))
  ·cases e
 have hgr:Grow (Zy g B s vc cs) r.F wr.heap.size:=fun j hj=>.inl (hF j hj)
 have hfl:∀ j,r.F j→j<wr.heap.size:=fun j hj=>h.srv.flt j (hF j hj)
 have hnf:∀ j,vc.ownBlock=some j→¬ r.F j:=fun j hv hj=>by
  rw[hr] at hj;rcases hj with e | e | ⟨i,c,hi,e⟩ | e
  ·exact h.g_ty (by rw[hv,e])
  ·exact (h.s_ty e).2 hv
  ·exact (h.c_ty hi e).2 hv
  ·cases e
 have hO:Only (fun _=>False) wr wr:=Only.refl _ _;have hsv:RSrvR wr r.F s (SV.new (U.encs R)):=h.srv.only hO (fun _ e=>e.elim) (fun _ _ e=>e) hgr (fun j hj=>by rw[hr];exact .inr (.inl hj)) hfl;refine⟨r,by rw[hr],fun j hj=>h.new j (hF j hj),fun F' q1 q2=>?_⟩;have hfl2:∀ j,F' j→j<wr.heap.size:=fun j hj=>(q2 j hj).elim (hfl j) (fun e=>Wal e h.bel.size)
 subst hr;refine⟨h.blk,hsv.widen (fun j hj=>q1 j hj) hfl2 rfl,?_,fun k c C hc hC=>?_,Sl.of_own h.own,fun ad n c' e _ hn=>?_,World.ownsRow_nil _ _ _ _,rfl,(fun x hx=>by cases hx),h.ap,q1,hfl2⟩
 ·show cs.length=(us.zipIdx.map _).length
  rw[Wbi,List.length_zipIdx,hl]
 ·obtain⟨u,hu,hC'⟩:=h.cli k c hc;obtain⟨u',hu',rfl⟩:=RM.new_cl hC;obtain rfl:=getElem?_uniq hu hu'
  exact⟨hC'.blk,hC'.way.none_,hC'.wts.none_,fun j hj=>q1 j (.inr (.inr (.inl ⟨k,c,hc,hj⟩))),hfl2⟩
 ·have e:vc=.slice (some ad) n c':=e;rcases q2 _ hn with e2 | e2
  ·exact hnf _ (by rw[e];rfl) e2
  ·have:=(h.own.lt ad.block (by rw[e];rfl)).1;omega
end
theorem RRNI.start {w w1:World}{B:Nat}{s:RSP}{us R:List Int}(h1:Below w.heap.size w w1)(hB:w.heap.size≤B)(hB1:B<w1.heap.size)(hF:∀ j,s.F j→w.heap.size≤j)(hs:RSrvR w1 s.F s (SV.new (U.encs R))) :
  RRNI w (w1.alloc (.cells #[.pointer (some ⟨s.a,0,none⟩),.slice none 0 0,.slice none 0 0,.int .i64 0] 86)) w1.heap.size B s (.slice none 0 0) [] us R:=by
 have z1:=h1.size;have hb:Below w1.heap.size w1 (w1.alloc (.cells #[.pointer (some ⟨s.a,0,none⟩),.slice none 0 0,.slice none 0 0,.int .i64 0] 86)):=Qa (Wac _ _) _
 have hN:∀ j,Zy w1.heap.size B s (.slice none 0 0) [] j→(j=w1.heap.size∨j=B)∨s.F j:=by
  rintro j (e | e | e | ⟨i,c,hi,-⟩)
  ·exact .inl e
  ·cases e
  ·exact .inr e
  ·cases hi
 refine⟨Qa h1 _,Blk.new w1 _ _,(hs.below hb).widen (fun j hj=>.inr (.inr (.inl hj))) (fun j hj=>?_) rfl,(fun i c hi=>by cases hi),World.ownsRow_nil _ _ _ _,(fun i j c c' _ hi=>by cases hi),fun j hj=>?_⟩
 ·rw[Waq];rcases hN j hj with (e | e) | e
  ·omega
  ·omega
  ·have:=hs.flt j e;omega
 ·rcases hN j hj with (e | e) | e
  ·omega
  ·omega
  ·exact hF j e
theorem RRNI.aside {w wr W:World}{g B:Nat}{s:RSP}{vc:Value}{cs:List RCP}{us R:List Int}{bs:Array Value}(h:RRNI w wr g B s vc cs us R)(hb:Blk wr B 31 bs)(ho:Only (fun j=>j=B) wr W):RRNI w W g B s vc cs us R:=by
 have t1:=hb.tyo;have hG:∀ j,j=B→Zy g B s vc cs j:=fun j e=>.inl (.inr e)
 have hfl:∀ j,Zy g B s vc cs j→j<W.heap.size:=fun j hj=>Wal (h.srv.flt j hj) ho.size
 refine⟨h.bel.trans (ho.below h.bel.size (fun j hj e=>by have:=h.new j (hG j e);omega)),h.blk.only ho (fun e=>?_),h.srv.only ho hG (fun j hj e=>?_) (Grow.refl _ _) h.srv.sub hfl,fun i c hi=>?_,Qt h.own ho (fun k hk e=>?_),h.ap,h.new⟩
 ·have t2:=h.blk.tyo;rw[e,t1] at t2;exact absurd t2 (by decide)
 ·subst e;rcases h.srv.ty hj with t2 | t2 | t2 | t2<;>rw[t1] at t2<;>exact absurd t2 (by decide)
 ·obtain⟨u,hu,hC⟩:=h.cli i c hi;refine⟨u,hu,hC.only ho hG (fun j hj e=>?_) (Grow.refl _ _) hC.sub hfl⟩;have t2:=hC.ty;have e1:j=c.a:=hj;rw[← e1,e,t1] at t2;exact absurd t2 (by decide)
 ·subst e;have t2:=Zn h.own hk;rw[t1] at t2;exact absurd t2 (by decide)
theorem RRNI.box {w wr w2 w3:World}{g B0:Nat}{s:RSP}{vc v':Value}{cs:List RCP}{us R:List Int}{B:Nat}{T:TypeId}{bs:Array Value}(h:RRNI w wr g B0 s vc cs us R)(hb:Blk wr B T bs)(hT1:T≠86)(hT2:T≠88)
  (h1:Below wr.heap.size wr w2) (hg:w2.grownBy w3 vc.ownBlock):Blk (w3.setCell ⟨g,1,none⟩ v') B T bs:=by
 have n1:B≠g:=fun e=>by
  have t1:=hb.tyo;have t2:=h.blk.tyo;rw[e,t2] at t1;exact hT1 (Wbg t1).symm
 have n2:vc.ownBlock≠some B:=fun e=>by
  have t1:=hb.tyo;have t2:=Zn h.own e;rw[t1] at t2;exact hT2 (Wbg t2)
 exact ((hb.below h1 hb.lt).only (Zzz hg) (fun e=>n2 e.symm)).only ((Only.refl (fun j=>j=g) w3).setCell (p:=⟨g,1,none⟩) (.inl rfl) _) n1
theorem RCliR.new {w:World}{k:Nat}{u:Int}{R:List Int}:∀ F:Nat→Prop,(∀ j,(RCP.mk w.heap.size (.slice none 0 0) (.slice none 0 0)).F j→F j)→(∀ j,F j→(RCP.mk w.heap.size (.slice none 0 0) (.slice none 0 0)).F j∨j<w.heap.size) →
  RCliR (w.alloc (.cells #[.int .i64 (k:Int),.int .i64 u,.string ⟨(U.encs R).toArray⟩,.string ⟨(U.encs R).toArray⟩,.int .i64 0,.int .i64 0,.slice none 0 0,.slice none 0 0,.bool false,.bool false,.int .i64 0] 99)) F ⟨w.heap.size,.slice none 0 0,.slice none 0 0⟩ (CV.new k u R):=by
 intro F h1 h2;refine⟨Blk.new w _ _,OpO.nil _ _,OpO.nil _ _,h1,fun j hj=>?_⟩;rw[Waq];rcases h2 j hj with e | e
 ·have e1:j=w.heap.size:=e;omega
 ·omega
theorem Qrx (a:Nat):∀ u∈([.pointer (some ⟨a,0,none⟩)]:List Value),u.oneCell'=true:=by
 intro u hu;obtain rfl:=Wbd.1 hu
 rfl
theorem Qry (a:Int)(W:World):Calls prog 69 #[.int .i64 a,.int .i64 1,.int .i64 3] W fun e w'=>e=.returned (.bool (decide (1≤a∧a≤3)))∧W=w':=by
 by_cases h:1≤a∧a≤3
 ·rw[decide_eq_true h];exact inT h W
 ·rw[decide_eq_false h];exact inF h W
def Qrz (rs:List Int)(rest:U.Bs)(us:List Int)(w:World)(e:Ending)(w':World):Prop :=
 Below w.heap.size w w'∧(rest≠[]→e=.returned (.tuple #[.pointer none,.agg #[.int .i64 3,.int .i64 (bl rs)]])) ∧
  (rest=[]→2000<bl rs→e=.returned (.tuple #[.pointer none,.agg #[.int .i64 12,.int .i64 (-1)]])) ∧
  (rest=[]→bl rs≤2000→6<us.length→e=.returned (.tuple #[.pointer none,.agg #[.int .i64 4,.int .i64 (-1)]])) ∧
  (rest=[]→bl rs≤2000→us.length≤6→(∃ u∈us,¬ (1≤u∧u≤3))→e=.returned (.tuple #[.pointer none,.agg #[.int .i64 1,.int .i64 (-1)]])) ∧
  (rest=[]→bl rs≤2000→us.length≤6→(∀ u∈us,1≤u∧u≤3)→∃ r:RRP,e=.returned (.tuple #[.pointer (some ⟨r.a,0,none⟩),.agg #[.int .i64 0,.int .i64 (-1)]])∧(∀ j,r.F j→w.heap.size≤j)∧∀ F',(∀ j,r.F j→F' j)→(∀ j,F' j→r.F j∨j<w.heap.size)→RRmR w' F' r (RM.new rs us))
abbrev FT:TypeId:=31
theorem Qr0 {s:U.Bs}{rs:List Int}{rest:U.Bs}{us:List Int}{vu:Value}{n:Nat}{w:World}(hsp:U.Sp s rs rest)(hs:s.length≤1000000)(hus:Sl w 1 vu n (us.map fun u=>.int .i64 u)) :
  Calls prog 34 #[.string ⟨s.toArray⟩,vu] w (Qrz rs rest us w):=by
 have hn:us.length=n:=by have:=hus.len;rw[Wbi] at this;omega
 have HSN:=fun W=>Hm (Qu9 hsp hs W)
 have HBR:=fun k W=>Hm (JZ k W)
 have HUS:=Hm hus;have HNL:=Hm hn;obtain⟨A,cu,rfl,-⟩:=hus
 by_cases hr:rest=[]
 ·by_cases hbl:2000<bl rs
  ·have HR:=Hm (Wao hr hbl);clear hsp hn hr hbl hs;go_enter func34,ntmps34
   go_wp2_with (go_at_call 8;refine (HSN _).out.mono ?_;rintro e w1 ⟨hb1,h1⟩;obtain rfl:=h1.2.1 HR.o.1 HR.o.2;have HB1:=Hm ((Qa (Wac _ _) _).trans (hb1.mono (by simp)):Below w.heap.size w w1);have HK1:=Hm ((Blk.new w FT #[.int .i64 0,.int .i64 0]).below hb1 (by simp));clear hb1 h1)
   obtain⟨w2,hw2⟩:∃ W,W=w1.alloc (.cells #[.int .i64 12,.int .i64 (-1)] FT):=⟨_,rfl⟩;have HB2:Hd (Below w.heap.size w w2):=⟨by rw[hw2];exact Qa HB1.o _⟩;have HK2:Hd (Blk w2 w.heap.size FT #[.int .i64 0,.int .i64 0]):=⟨by rw[hw2];exact HK1.o.alloc _⟩;have HX2:Hd (Blk w2 w1.heap.size FT #[.int .i64 12,.int .i64 (-1)]):=⟨by rw[hw2];exact Blk.new w1 _ _⟩;rw[← hw2];clear hw2;have k0:=HK2.o.cell 0;have k1:=HK2.o.cell 1;have q0:=HX2.o.cell 0;have q1:=HX2.o.cell 1;simp only[Wab,Waa,Wae] at k0 k1 q0 q1;have kf:=HK2.o.frozen;have kl:=HK2.o.lt;have ql:=HX2.o.lt;go_wp2_with fail;go_region
   all_goals
    go_wp2_with fail;refine (?_:∀ W,Blk W w.heap.size FT #[.int .i64 12,.int .i64 (-1)]→Below w.heap.size w W→bodyPost _ _ _ Exit.ret _ W) _ ((HK2.o.set_ 0 (.int .i64 12)).set_ 1 (.int .i64 (-1))) (Qe ((HB2.o.setCell (p:=⟨w.heap.size,0,none⟩) (Wak _) _).setCell (p:=⟨w.heap.size,1,none⟩) (Wak _) _));intro W hC3 hBW;have g0:=hC3.cell 0;have g1:=hC3.cell 1;simp only[Wab,Waa,Wae] at g0 g1;refine Waz (v:=.tuple #[.pointer none,.agg #[.int .i64 12,.int .i64 (-1)]]) (by simp[results,results34,go_sem,g0,g1]) rfl ?_
    exact⟨hBW,fun e=>absurd HR.o.1 e,fun _ _=>rfl,fun _ h=>absurd HR.o.2 (by omega),fun _ h=>absurd HR.o.2 (by omega),fun _ h=>absurd HR.o.2 (by omega)⟩
  ·have hbl':bl rs≤2000:=by omega
   have HR:=Hm (Wao hr hbl')
   by_cases h6:6<n
   ·have H6:=Hm h6;have hi6:(6:Int)<(n:Int):=by omega
    clear hsp hn hr hbl hs hbl' h6;go_enter func34,ntmps34
    go_wp2_with (first
     | (go_at_call 8;refine (HSN _).out.mono ?_;rintro e w1 ⟨hb1,-,-,h1⟩;obtain⟨s1,rfl,hs1,hs2⟩:=h1 HR.o.1 HR.o.2;have HB1:=Hm ((Qa (Wac _ _) _).trans (hb1.mono (by simp)):Below w.heap.size w w1);have HK1:=Hm ((Blk.new w FT #[.int .i64 0,.int .i64 0]).below hb1 (by simp));have HS1:=Hm (Wao (fun j hj=>Nat.le_of_succ_le (by have:=hs1 j hj;rw[Waq] at this;exact this):∀ j,s1.F j→w.heap.size≤j) hs2);clear hb1 h1 hs1 hs2)
     | (go_at_call 50;refine (HBR _ _).out.mono ?_;rintro e w3 ⟨rfl,hb3⟩;have HB3:=Hm (Qb (Qa HB1.o (.cells #[.int .i64 0,.int .i64 (-1)] FT)) hb3);have hk3:=(HK1.o.alloc (.cells #[.int .i64 0,.int .i64 (-1)] FT)).below hb3 (by simp;have:=HK1.o.lt;omega);have HK3:=Hm hk3;have k0:=hk3.cell 0;have k1:=hk3.cell 1;simp only[Wab,Waa,Wae] at k0 k1;have kf:=hk3.frozen;have kl:=hk3.lt;clear hb3 hk3))
    refine HK3.o.set2 (F:=fun W=>bodyPost _ _ _ Exit.ret _ W) ?_;intro w9 hC9 hB9 hz9 hK9;have g0:=hC9.cell 0;have g1:=hC9.cell 1;simp only[Wab,Waa,Wae] at g0 g1;refine Waz (v:=.tuple #[.pointer none,.agg #[.int .i64 4,.int .i64 (-1)]]) (by simp[results,results34,go_sem,g0,g1]) rfl ?_
    exact⟨HB3.o.trans (hB9 _ (Wak _)),fun e=>absurd HR.o.1 e,fun _ h=>absurd HR.o.2 (by omega),fun _ _ _=>rfl,fun _ _ h=>absurd H6.o (by rw[HNL.o] at h;omega),fun _ _ h=>absurd H6.o (by rw[HNL.o] at h;omega)⟩
   ·have hi6:¬ (6:Int)<(n:Int):=by omega
    have hn6:n≤6:=by omega
    obtain rfl:s=U.encs rs:=by have:=hsp.eq;rw[hr] at this;simpa using this
    clear hsp hn hr hbl hs hbl' h6;go_enter func34,ntmps34
    go_wp2_with (go_at_call 8;refine (HSN _).out.mono ?_;rintro e w1 ⟨hb1,-,-,h1⟩;obtain⟨s1,rfl,hs1,hs2⟩:=h1 HR.o.1 HR.o.2;have HB1:=Hm ((Qa (Wac _ _) _).trans (hb1.mono (by simp)):Below w.heap.size w w1);have HK1:=Hm ((Blk.new w FT #[.int .i64 0,.int .i64 0]).below hb1 (by simp));have HS1:=Hm (Wao (fun j hj=>Nat.le_of_succ_le (by have:=hs1 j hj;rw[Waq] at this;exact this):∀ j,s1.F j→w.heap.size≤j) hs2);clear hb1 h1 hs1 hs2)
    obtain⟨w2,hw2⟩:∃ W,W=w1.alloc (.cells #[.int .i64 0,.int .i64 (-1)] FT):=⟨_,rfl⟩;have HB2:Hd (Below w.heap.size w w2):=⟨by rw[hw2];exact Qa HB1.o _⟩;have HK2:Hd (Blk w2 w.heap.size FT #[.int .i64 0,.int .i64 0]):=⟨by rw[hw2];exact HK1.o.alloc _⟩;have HX2:Hd (Blk w2 w1.heap.size FT #[.int .i64 0,.int .i64 (-1)]):=⟨by rw[hw2];exact Blk.new w1 _ _⟩;have HS2:Hd (RSrvR w2 s1.F s1 (SV.new (U.encs rs))):=⟨by rw[hw2];exact HS1.o.2.below (Qa (Wac _ _) _)⟩;have HST:=Hm (RRNI.start (us:=us) (B:=w.heap.size) HB2.o (Wak _) HK2.o.lt HS1.o.1 HS2.o);have HBX:Hd (Blk (w2.alloc (.cells #[.pointer (some ⟨s1.a,0,none⟩),.slice none 0 0,.slice none 0 0,.int .i64 0] 86)) w.heap.size FT #[.int .i64 0,.int .i64 0]∧Blk (w2.alloc (.cells #[.pointer (some ⟨s1.a,0,none⟩),.slice none 0 0,.slice none 0 0,.int .i64 0] 86)) w1.heap.size FT #[.int .i64 0,.int .i64 (-1)]):=⟨HK2.o.alloc _,HX2.o.alloc _⟩;obtain⟨g,hg⟩:∃ g,g=w2.heap.size:=⟨_,rfl⟩;rw[← hg] at HST;obtain⟨ws,hws⟩:∃ W,W=w2.alloc (.cells #[.pointer (some ⟨s1.a,0,none⟩),.slice none 0 0,.slice none 0 0,.int .i64 0] 86):=⟨_,rfl⟩;rw[← hws] at HST HBX;rw[hw2] at hws hg;rw[Waq] at hg
    try rw[← hg]
    rw[← hws];clear hws hw2 hg HK2 HX2 HS2 HB2 HK1 HS1
    go_loopw [29] (fun i wr=>∃ (k:Nat) (vc:Value) (cs:List RCP),k≤n∧i=.int .i64 k∧cs.length=k∧RRNI w wr g w.heap.size s1 vc cs us rs∧(Blk wr w.heap.size FT #[.int .i64 0,.int .i64 0]∧Blk wr w1.heap.size FT #[.int .i64 0,.int .i64 (-1)])∧(∀ j,j<k→∀ u,us[j]?=some u→1≤u∧u≤3)) (fun i _=>n-(intOf i).toNat)
    case atStart=>exact⟨0,_,_,by omega,rfl,rfl,HST.o,HBX.o,fun j hj=>by omega⟩
    case round =>
     obtain⟨k,vc,cs,hk,rfl,hcl,hI,hbxs,hall⟩:=hrel;have HI:=Hm (Wao hcl hI);have HAL:=Hm hall;have HBS:=Hm hbxs;have hkb:k≤6:=by omega
     obtain⟨z0,z1,z2,z3⟩:=Qk hI.blk;obtain⟨Av,cv,hvc⟩:=Qg hI.own;rw[hvc,hcl] at z1;have fz:=hI.blk.frozen;have lt:=hI.blk.lt;have HVC:=Hm hvc;have how:=hI.own;rw[hvc,hcl] at how;have HOW:=Hm how;clear hcl hI hall HST HBX hvc how hbxs
     by_cases hkn:k<n
     ·obtain⟨u,hu⟩:∃ u,us[k]?=some u:=⟨_,Waj (by rw[HNL.o];exact hkn)⟩;obtain⟨b,o,cc,hv,hbb,c0⟩:=(HUS.o.below HI.o.2.bel).one_at hkn (u:=.int .i64 u) (by rw[Wav,hu];rfl)
      cases hv
      have HIN:=fun W=>Hm (Qry u W)
      have HU:=Hm hu;clear hu
      by_cases hg:1≤u∧u≤3
      ·have HG:=Hm hg;have HDT:Hd (decide (1≤u∧u≤3)=true):=⟨decide_eq_true hg⟩;clear hg
       go_wp2_with (first
        | (go_at_call 69;refine (HIN _).out.mono ?_;rintro e w2 ⟨rfl,rfl⟩;rw[HDT.o])
        | (at_builtin;refine Qx Qrw #[.pointer (some ⟨wr.heap.size,0,none⟩)] (own_below HOW.o (Qa (Wac _ _) _)) rfl rfl rfl rfl (by simp) rfl (Qrx wr.heap.size) (by unfold maxLen;omega) (by omega) (by have:=HI.o.2.bel.size;simp;omega) ?_;intro v3 w3 hown3 hbel3 hgr3 hnew3;have HO3:=Hm hown3;obtain⟨A3,k3,rfl⟩:=Qg hown3;have hbk3:=(HI.o.2.blk.alloc _).only (Zzz hgr3) (fun e=>HI.o.2.g_ty (by rw[HVC.o,HI.o.1];exact e.symm));have HGR3:=Hm hgr3;have HNW3:=Hm hnew3;obtain⟨x0,x1,x2,x3⟩:=Qk hbk3;have xf:=hbk3.frozen;have xl:=hbk3.lt;rw[HVC.o,HI.o.1] at x1;clear hown3 hbel3 hgr3 hnew3 hbk3))
       have hvq:vc=.slice Av k cv:=by rw[HVC.o,HI.o.1]
       have g1:=HGR3.o;have g2:=HNW3.o;rw[← hvq] at g1 g2;refine⟨⟨k+1,.slice A3 (k+1) k3,cs++[⟨wr.heap.size,.slice none 0 0,.slice none 0 0⟩],by omega,by go_num,by simp[HI.o.1],?_,⟨?_,?_⟩,?_⟩,by simp only[intOf];omega⟩
       ·have hk:=HI.o.1;subst hk;exact HI.o.2.more HU.o (Qa (Wac _ _) _) (fun j hj=>by have e1:j=wr.heap.size:=hj;omega) RCliR.new (Wac _ _) HO3.o g1 g2
       ·exact HI.o.2.box HBS.o.1 (by decide) (by decide) (Qa (Wac _ _) _) g1
       ·exact HI.o.2.box HBS.o.2 (by decide) (by decide) (Qa (Wac _ _) _) g1
       ·intro j hj u' hu'
        by_cases hjk:j<k
        ·exact HAL.o j hjk u' hu'
        ·obtain rfl:j=k:=by omega
         obtain rfl:=getElem?_uniq HU.o hu';exact HG.o
      ·have HG:=Hm hg;have HDT:Hd (decide (1≤u∧u≤3)=false):=⟨decide_eq_false hg⟩;clear hg
       go_wp2_with (first
        | (go_at_call 69;refine (HIN _).out.mono ?_;rintro e w2 ⟨rfl,rfl⟩;rw[HDT.o])
        | (go_at_call 50;refine (HBR _ _).out.mono ?_;rintro e w3 ⟨rfl,hb3⟩;have HB3:=Hm (Qb HI.o.2.bel hb3);have hk3:=HBS.o.1.below hb3 HBS.o.1.lt;have HK3:=Hm hk3;have k0:=hk3.cell 0;have k1:=hk3.cell 1;simp only[Wab,Waa,Wae] at k0 k1;have kf:=hk3.frozen;have kl:=hk3.lt;clear hb3 hk3))
       refine HK3.o.set2 (F:=fun W=>bodyPost _ _ _ Exit.ret _ W) ?_;intro w9 hC9 hB9 hz9 hK9;have g0:=hC9.cell 0;have g1:=hC9.cell 1;simp only[Wab,Waa,Wae] at g0 g1;refine Waz (v:=.tuple #[.pointer none,.agg #[.int .i64 1,.int .i64 (-1)]]) (by simp[results,results34,go_sem,g0,g1]) rfl ?_
       exact⟨HB3.o.trans (hB9 _ (Wak _)),fun e=>absurd HR.o.1 e,fun _ h=>absurd HR.o.2 (by omega),fun _ _ h=>absurd h (by rw[HNL.o];omega),fun _ _ _ _=>rfl,fun _ _ _ h=>absurd (h u (List.mem_of_getElem? HU.o)) HG.o⟩
     ·obtain rfl:k=n:=by omega
      have k0:=HBS.o.1.cell 0;have k1:=HBS.o.1.cell 1;have q0:=HBS.o.2.cell 0;have q1:=HBS.o.2.cell 1;simp only[Wab,Waa,Wae] at k0 k1 q0 q1;have kf:=HBS.o.1.frozen;have kl:=HBS.o.1.lt;have ql:=HBS.o.2.lt;clear z0 z1 z2 z3 fz lt;go_wp2_with fail;go_region
      all_goals
       go_wp2_with fail;refine (?_:∀ W,Blk W w.heap.size FT #[.int .i64 0,.int .i64 (-1)]→Only (fun j=>j=w.heap.size) wr W→bodyPost _ _ _ Exit.ret _ W) _ ((HBS.o.1.set_ 0 (.int .i64 0)).set_ 1 (.int .i64 (-1))) ((((Only.refl (fun j=>j=w.heap.size) wr).setCell (p:=⟨w.heap.size,0,none⟩) (.inl rfl) _).setCell (p:=⟨w.heap.size,1,none⟩) (.inl rfl) _).trans (Only.of_below (Qe (Wac _ _))));intro W hC3 hOW;have g0:=hC3.cell 0;have g1:=hC3.cell 1;simp only[Wab,Waa,Wae] at g0 g1;refine Waz (v:=.tuple #[.pointer (some ⟨g,0,none⟩),.agg #[.int .i64 0,.int .i64 (-1)]]) (by simp[results,results34,go_sem,g0,g1]) rfl ?_;have hI9:=HI.o.2.aside HBS.o.1 hOW;obtain⟨r,hr1,hr2,hr3⟩:=hI9.done (by rw[HI.o.1,HNL.o]);refine⟨hI9.bel,fun e=>absurd HR.o.1 e,fun _ h=>absurd HR.o.2 (by omega),fun _ _ h=>absurd h (by rw[HNL.o];omega),fun _ _ _ ⟨u,hu,hg⟩=>?_,fun _ _ _ _=>⟨r,by rw[hr1],hr2,hr3⟩⟩;obtain⟨j,hj⟩:=List.mem_iff_getElem?.1 hu;exact absurd (HAL.o j (by have:=(Wai.1 hj).1;rw[HNL.o] at this;exact this) u hj) hg
 ·have HR:=Hm hr;clear hsp hn hr hs;go_enter func34,ntmps34
  go_wp2_with (go_at_call 8;refine (HSN _).out.mono ?_;rintro e w1 ⟨hb1,h1⟩;obtain rfl:=h1.1 HR.o;have HB1:=Hm ((Qa (Wac _ _) _).trans (hb1.mono (by simp)):Below w.heap.size w w1);have HK1:=Hm ((Blk.new w FT #[.int .i64 0,.int .i64 0]).below hb1 (by simp));clear hb1 h1)
  obtain⟨w2,hw2⟩:∃ W,W=w1.alloc (.cells #[.int .i64 3,.int .i64 (bl rs)] FT):=⟨_,rfl⟩;have HB2:Hd (Below w.heap.size w w2):=⟨by rw[hw2];exact Qa HB1.o _⟩;have HK2:Hd (Blk w2 w.heap.size FT #[.int .i64 0,.int .i64 0]):=⟨by rw[hw2];exact HK1.o.alloc _⟩;have HX2:Hd (Blk w2 w1.heap.size FT #[.int .i64 3,.int .i64 (bl rs)]):=⟨by rw[hw2];exact Blk.new w1 _ _⟩;rw[← hw2];clear hw2;have k0:=HK2.o.cell 0;have k1:=HK2.o.cell 1;have q0:=HX2.o.cell 0;have q1:=HX2.o.cell 1;simp only[Wab,Waa,Wae] at k0 k1 q0 q1;have kf:=HK2.o.frozen;have kl:=HK2.o.lt;have ql:=HX2.o.lt;go_wp2_with fail;go_region
  all_goals
   go_wp2_with fail;refine (?_:∀ W,Blk W w.heap.size FT #[.int .i64 3,.int .i64 (bl rs)]→Below w.heap.size w W→bodyPost _ _ _ Exit.ret _ W) _ ((HK2.o.set_ 0 (.int .i64 3)).set_ 1 (.int .i64 (bl rs))) (Qe ((HB2.o.setCell (p:=⟨w.heap.size,0,none⟩) (Wak _) _).setCell (p:=⟨w.heap.size,1,none⟩) (Wak _) _));intro W hC3 hBW;have g0:=hC3.cell 0;have g1:=hC3.cell 1;simp only[Wab,Waa,Wae] at g0 g1;refine Waz (v:=.tuple #[.pointer none,.agg #[.int .i64 3,.int .i64 (bl rs)]]) (by simp[results,results34,go_sem,g0,g1]) rfl ?_
   exact⟨hBW,fun _=>rfl,fun e=>absurd e HR.o,fun e=>absurd e HR.o,fun e=>absurd e HR.o,fun e=>absurd e HR.o⟩
end
section
open Go.RowKit Go.Sort
structure RmPs (w0 wr:World)(a0 a1:Nat)(R Q:RM)(r:RP)(q:RRP)(F:Nat→Prop):Prop where
 rm:RmR wr F r R
 rr:RRmR wr F q Q
 ha:r.a=a0
 hb:q.a=a1
 dis:∀ j,r.F j→¬ q.F j
 new:∀ j,F j→w0.heap.size≤j
 bel:Below w0.heap.size w0 wr
section
variable {w0 wr w':World}{a0 a1:Nat}{R R' Q Q':RM}{r:RP}{q:RRP}{F:Nat→Prop}
theorem RmPs.below (h:RmPs w0 wr a0 a1 R Q r q F)(hb:Below wr.heap.size wr w'):RmPs w0 w' a0 a1 R Q r q F :=
 ⟨h.rm.below hb,h.rr.below hb,h.ha,h.hb,h.dis,h.new,Qb h.bel hb⟩
theorem RmPs.onlyB (h:RmPs w0 wr a0 a1 R Q r q F){S:Nat→Prop}(ho:Only S wr w')(hS:∀ j,S j→F j):Below w0.heap.size w0 w' :=
 h.bel.trans (ho.below h.bel.size (fun j hj e=>by have:=h.new j (hS j e);omega))
theorem RmPs.prog (h:RmPs w0 wr a0 a1 R Q r q F)(hs:RmS F r R' wr w'):∃ r' F',RmPs w0 w' a0 a1 R' Q r' q F'∧Only r.F wr w'∧Grow F F' wr.heap.size∧(r'.s.a=r.s.a∧r'.cs.map CP.a=r.cs.map CP.a):=by
 obtain⟨r1,a1,a2,a3,a4,a5⟩:=hs;have hF:=a5 (fun j=>F j∨r1.F j) (fun _ e=>e) (fun _ e=>.inr e);have hgr:Grow F (fun j=>F j∨r1.F j) wr.heap.size:=fun j hj=>hj.elim .inl (fun e=>(a4 j e).imp_left (h.rm.sub j))
 have hz:=h.bel.size;refine⟨r1,fun j=>F j∨r1.F j,⟨hF,h.rr.only a3 h.rm.sub (fun j e e'=>h.dis j e' e) hgr (fun j e=>.inl (h.rr.sub j e)) hF.flt,a1.1.trans h.ha,h.hb,fun j e e'=>?_,fun j hj=>?_,h.onlyB a3 h.rm.sub⟩,a3,hgr,a1.2,a2⟩
 ·rcases a4 j e with e2 | e2
  ·exact h.dis j e2 e'
  ·have:=h.rr.lt j e';omega
 ·rcases hgr j hj with e | e
  ·exact h.new j e
  ·omega
theorem RmPs.ref (h:RmPs w0 wr a0 a1 R Q r q F)(hs:Qp F q Q' wr w'):∃ q' F',RmPs w0 w' a0 a1 R Q' r q' F'∧Only q.F wr w'∧Grow F F' wr.heap.size∧(q'.s.a=q.s.a∧q'.cs.map RCP.a=q.cs.map RCP.a):=by
 obtain⟨q1,a1,a2,a3,a4,a5⟩:=hs;have hF:=a5 (fun j=>F j∨q1.F j) (fun _ e=>e) (fun _ e=>.inr e);have hgr:Grow F (fun j=>F j∨q1.F j) wr.heap.size:=fun j hj=>hj.elim .inl (fun e=>(a4 j e).imp_left (h.rr.sub j))
 have hz:=h.bel.size;refine⟨q1,fun j=>F j∨q1.F j,⟨h.rm.only a3 h.rr.sub (fun j e e'=>h.dis j e e') hgr (fun j e=>.inl (h.rm.sub j e)) hF.flt,hF,h.ha,a1.1.trans h.hb,fun j e e'=>?_,fun j hj=>?_,h.onlyB a3 h.rr.sub⟩,a3,hgr,a1.2,a2⟩
 ·rcases a4 j e' with e2 | e2
  ·exact h.dis j e e2
  ·have:=h.rm.lt j e;omega
 ·rcases hgr j hj with e | e
  ·exact h.new j e
  ·omega
end
theorem RmPs.start {w w1 w2:World}{R:RM}{r:RP}{q:RRP}(hb1:Below w.heap.size w w1)(hr:RmR w1 r.F r R)(hF:∀ j,r.F j→w.heap.size≤j)(hb2:Below w1.heap.size w1 w2)(hG:∀ j,q.F j→w1.heap.size≤j)
  (hq:∀ F',(∀ j,q.F j→F' j)→(∀ j,F' j→q.F j∨j<w1.heap.size)→RRmR w2 F' q R.z):RmPs w w2 r.a q.a R R.z r q (fun j=>r.F j∨q.F j):=by
 have z1:=hb1.size;have h2:=hq (fun j=>r.F j∨q.F j) (fun _ e=>.inr e) (fun j hj=>hj.elim (fun e=>.inr (hr.flt j e)) .inl);refine⟨hr.only (G:=fun _=>False) (Only.of_below hb2) (fun _ e=>e.elim) (fun _ _ e=>e) (fun j hj=>hj.imp_right (hG j)) (fun _ e=>.inl e) h2.flt,h2,rfl,rfl,fun j e e'=>?_,fun j hj=>hj.elim (hF j) (fun e=>by have:=hG j e;omega),hb1.trans (hb2.mono z1)⟩
 have:=hr.flt j e
 have:=hG j e'
 omega
structure RmPx (w0 wr:World)(a0 a1 B:Nat)(T:TypeId)(bs:Array Value)(R Q:RM):Prop where
 ex:∃ r q F,RmPs w0 wr a0 a1 R Q r q F∧¬ F B
 box:Blk wr B T bs
section
variable {w0 wr w':World}{a0 a1 B:Nat}{T:TypeId}{bs:Array Value}{R R' Q Q':RM}
theorem RmPx.below (h:RmPx w0 wr a0 a1 B T bs R Q)(hb:Below wr.heap.size wr w'):RmPx w0 w' a0 a1 B T bs R Q:=by
 obtain⟨⟨r,q,F,h1,h2⟩,h3⟩:=h
 exact⟨⟨r,q,F,h1.below hb,h2⟩,h3.below hb h3.lt⟩
theorem RmPx.prog {r:RP}{q:RRP}{F:Nat→Prop}(h1:RmPs w0 wr a0 a1 R Q r q F)(h2:¬ F B)(h3:Blk wr B T bs)(hs:RmS F r R' wr w'):RmPx w0 w' a0 a1 B T bs R' Q:=by
 obtain⟨r',F',k1,k2,k3,-⟩:=h1.prog hs;have hlt:=h3.lt
 exact⟨⟨r',q,F',k1,fun e=>(k3 B e).elim h2 (fun e=>by omega)⟩,h3.only k2 (fun e=>h2 (h1.rm.sub B e))⟩
theorem RmPx.ref {r:RP}{q:RRP}{F:Nat→Prop}(h1:RmPs w0 wr a0 a1 R Q r q F)(h2:¬ F B)(h3:Blk wr B T bs)(hs:Qp F q Q' wr w'):RmPx w0 w' a0 a1 B T bs R Q':=by
 obtain⟨q',F',k1,k2,k3,-⟩:=h1.ref hs;have hlt:=h3.lt
 exact⟨⟨r,q',F',k1,fun e=>(k3 B e).elim h2 (fun e=>by omega)⟩,h3.only k2 (fun e=>h2 (h1.rr.sub B e))⟩
theorem RmPx.callP (h:RmPx w0 wr a0 a1 B T bs R Q){n:Nat}{args:Array Value}{ev:Value}(hc:∀ r F,r.a=a0→RmR wr F r R→Calls Tryz.prog n args wr (fun e w'=>e=.returned ev∧RmS F r R' wr w')) :
  Calls Tryz.prog n args wr (fun e w'=>e=.returned ev∧RmPx w0 w' a0 a1 B T bs R' Q):=by
 obtain⟨⟨r,q,F,h1,h2⟩,h3⟩:=h;refine (hc r F h1.ha h1.rm).mono ?_;rintro e w' ⟨rfl,hs⟩
 exact⟨rfl,RmPx.prog h1 h2 h3 hs⟩
theorem RmPx.callR (h:RmPx w0 wr a0 a1 B T bs R Q){n:Nat}{args:Array Value}{ev:Value}(hc:∀ q F,q.a=a1→RRmR wr F q Q→Calls Tryz.prog n args wr (fun e w'=>e=.returned ev∧Qp F q Q' wr w')) :
  Calls Tryz.prog n args wr (fun e w'=>e=.returned ev∧RmPx w0 w' a0 a1 B T bs R Q'):=by
 obtain⟨⟨r,q,F,h1,h2⟩,h3⟩:=h;refine (hc q F h1.hb h1.rr).mono ?_;rintro e w' ⟨rfl,hs⟩
 exact⟨rfl,RmPx.ref h1 h2 h3 hs⟩
theorem RmPx.same (h:RmPx w0 wr a0 a1 B T bs R Q){n:Nat}{args:Array Value}{ev:Value}(hc:∀ r F,r.a=a0→RmR wr F r R→Calls Tryz.prog n args wr (fun e w'=>e=.returned ev∧w'=wr)) :
  Calls Tryz.prog n args wr (fun e w'=>e=.returned ev∧RmPx w0 w' a0 a1 B T bs R Q):=by
 obtain⟨⟨r,q,F,h1,h2⟩,h3⟩:=h;refine (hc r F h1.ha h1.rm).mono ?_;rintro e w' ⟨rfl,rfl⟩
 exact⟨rfl,⟨⟨r,q,F,h1,h2⟩,h3⟩⟩
theorem RmPx.bel (h:RmPx w0 wr a0 a1 B T bs R Q):Below w0.heap.size w0 wr:=by
 obtain⟨⟨r,q,F,h1,h2⟩,h3⟩:=h;exact h1.bel
theorem RmPx.hdl (h:RmPx w0 wr a0 a1 B T bs R Q):Hdl wr:=by
 obtain⟨⟨r,q,F,h1,h2⟩,h3⟩:=h;exact h1.rm.hd.1
theorem RmPx.del {N Bd:Int}{i:Nat}{p:PK}(h:RmPx w0 wr a0 a1 B T bs R R.z)(hb:RMb N Bd R)(hN:N≤1000000)(hB:Bd≤700000000)(hp:R.way[i]?=some p)(hcl:R.cl.length≤1000000) :
  Calls Tryz.prog 40 #[.pointer (some ⟨a1,0,none⟩),.int .i64 (i:Int)] wr fun e w3=>∃ v,e=.returned (pkV p.z v) ∧
   Calls Tryz.prog 39 #[.pointer (some ⟨a1,0,none⟩),pkV p.z v] w3 fun e w4=>e=.returned (.tuple #[])∧RmPx w0 w4 a0 a1 B T bs R (R.deliver i).z:=by
 obtain⟨⟨r,q,F,h1,h2⟩,h3⟩:=h;have hd:=Qdd h1.rr hb hN hB hp hcl;rw[h1.hb] at hd;refine hd.mono ?_;rintro e w3 ⟨v,rfl,hc⟩;refine⟨v,rfl,hc.mono ?_⟩;rintro e w4 ⟨rfl,hs⟩
 exact⟨rfl,RmPx.ref h1 h2 h3 hs⟩
end
end
section
open Go.RowKit Go.Sort
section
variable {w0 wr w':World}{a0 a1 B:Nat}{T:TypeId}{bs:Array Value}{R R' Q Q':RM}{N Bd:Int}
theorem RmPx.sendR (h:RmPx w0 wr a0 a1 B T bs R Q)(hl:-1000000000≤Q.lost∧Q.lost≤1000000000){k:Nat}{C:CV}(hC:Q.cl[k]?=some C) :
  Calls Tryz.prog 37 #[.pointer (some ⟨a1,0,none⟩),.int .i64 (k:Int)] wr fun e w'=>e=.returned (.tuple #[])∧RmPx w0 w' a0 a1 B T bs R (Q.asks k) :=
 h.callR fun q F ha hq=>by rw[← ha];exact Qi6 hq hC hl
theorem RmPx.sendP (h:RmPx w0 wr a0 a1 B T bs R Q)(hb:RMb N Bd R)(hN:N≤1000000)(hB:Bd≤800000000){k:Nat}{C:CV}(hC:R.cl[k]?=some C) :
  Calls Tryz.prog 38 #[.pointer (some ⟨a0,0,none⟩),.int .i64 (k:Int)] wr fun e w'=>e=.returned .nilIface∧RmPx w0 w' a0 a1 B T bs (R.asks k) Q :=
 h.callP fun r F ha hr=>by rw[← ha];exact Qj3 hr hb hN hB hC
theorem RmPx.sendF (h:RmPx w0 wr a0 a1 B T bs R Q){k:Int}(hk:¬ (0≤k∧k<R.cl.length)) :
  Calls Tryz.prog 38 #[.pointer (some ⟨a0,0,none⟩),.int .i64 k] wr fun e w'=>e=.returned (errno 2)∧RmPx w0 w' a0 a1 B T bs R Q :=
 h.same fun r F ha hr=>by rw[← ha];exact Qpz hr hk
theorem RmPx.clientF (h:RmPx w0 wr a0 a1 B T bs R Q){k:Int}(hk:¬ (0≤k∧k<R.cl.length)) :
  Calls Tryz.prog 27 #[.pointer (some ⟨a0,0,none⟩),.int .i64 k] wr fun e w'=>e=.returned (.tuple #[.pointer none,errno 2])∧RmPx w0 w' a0 a1 B T bs R Q :=
 h.same fun r F ha hr=>by rw[← ha];exact Qj6 hr (by rw[hr.len];exact hk)
theorem RmPx.delP (h:RmPx w0 wr a0 a1 B T bs R Q)(hb:RMb N Bd R)(hN:N≤1000000)(hB:Bd≤700000000){i:Nat}(hi:i<R.way.length)(hcl:R.cl.length≤1000000) :
  Calls Tryz.prog 41 #[.pointer (some ⟨a0,0,none⟩),.int .i64 (i:Int)] wr fun e w'=>e=.returned .nilIface∧RmPx w0 w' a0 a1 B T bs (R.deliver i) Q :=
 h.callP fun r F ha hr=>by rw[← ha];exact Qj4 hr hb hN hB hi hcl
theorem RmPx.delF (h:RmPx w0 wr a0 a1 B T bs R Q){i:Int}(hi:¬ (0≤i∧i<R.way.length)) :
  Calls Tryz.prog 41 #[.pointer (some ⟨a0,0,none⟩),.int .i64 i] wr fun e w'=>e=.returned (errno 2)∧RmPx w0 w' a0 a1 B T bs R Q :=
 h.same fun r F ha hr=>by rw[← ha];exact Qp0 hr hi
theorem RmPx.outR (h:RmPx w0 wr a0 a1 B T bs R Q){i:Nat}{p:PK}(hp:Q.way[i]?=some p)(hm:Q.way.length≤400) :
  Calls Tryz.prog 40 #[.pointer (some ⟨a1,0,none⟩),.int .i64 (i:Int)] wr fun e w'=>∃ v,e=.returned (pkV p v)∧RmPx w0 w' a0 a1 B T bs R (Q.out i):=by
 obtain⟨⟨r,q,F,h1,h2⟩,h3⟩:=h;have hd:=Qfv h1.rr hp hm;rw[h1.hb] at hd;refine hd.mono ?_;rintro e w3 ⟨⟨v,rfl,-⟩,hs⟩
 exact⟨v,rfl,RmPx.ref h1 h2 h3 hs⟩
theorem RmPx.loseP (h:RmPx w0 wr a0 a1 B T bs R Q){i:Nat}(hi:i<R.way.length)(hm:R.way.length≤400) :
  Calls Tryz.prog 42 #[.pointer (some ⟨a0,0,none⟩),.int .i64 (i:Int)] wr fun e w'=>e=.returned .nilIface∧RmPx w0 w' a0 a1 B T bs (R.out i) Q :=
 h.callP fun r F ha hr=>by rw[← ha];exact Qub hr hi hm
theorem RmPx.loseF (h:RmPx w0 wr a0 a1 B T bs R Q){i:Int}(hi:¬ (0≤i∧i<R.way.length)) :
  Calls Tryz.prog 42 #[.pointer (some ⟨a0,0,none⟩),.int .i64 i] wr fun e w'=>e=.returned (errno 2)∧RmPx w0 w' a0 a1 B T bs R Q :=
 h.same fun r F ha hr=>by rw[← ha];exact Qp1 hr hi
theorem RmPx.againR (h:RmPx w0 wr a0 a1 B T bs R Q){i:Nat}{p:PK}(hp:Q.way[i]?=some p)(hm:Q.way.length≤400)(hl:-1000000000≤Q.lost∧Q.lost≤1000000000) :
  Calls Tryz.prog 43 #[.pointer (some ⟨a1,0,none⟩),.int .i64 (i:Int)] wr fun e w'=>e=.returned (.tuple #[])∧RmPx w0 w' a0 a1 B T bs R (Q.again i) :=
 h.callR fun q F ha hq=>by rw[← ha];exact Qln hq hp hm hl
theorem RmPx.twiceP (h:RmPx w0 wr a0 a1 B T bs R Q){i:Nat}{p:PK}(hp:R.way[i]?=some p)(hm:R.way.length≤400)(hl:-1000000000≤R.lost∧R.lost≤1000000000) :
  Calls Tryz.prog 44 #[.pointer (some ⟨a0,0,none⟩),.int .i64 (i:Int)] wr fun e w'=>e=.returned .nilIface∧RmPx w0 w' a0 a1 B T bs (R.again i) Q :=
 h.callP fun r F ha hr=>by rw[← ha];exact Quc hr hp hm hl
theorem RmPx.twiceF (h:RmPx w0 wr a0 a1 B T bs R Q){i:Int}(hi:¬ (0≤i∧i<R.way.length)) :
  Calls Tryz.prog 44 #[.pointer (some ⟨a0,0,none⟩),.int .i64 i] wr fun e w'=>e=.returned (errno 2)∧RmPx w0 w' a0 a1 B T bs R Q :=
 h.same fun r F ha hr=>by rw[← ha];exact Qp2 hr hi
theorem RmPx.quietP (h:RmPx w0 wr a0 a1 B T bs R Q)(hb:RMb N Bd R)(hN:N≤1000000)(hB:Bd≤600000000)(hcl:R.cl.length≤1000) :
  Calls Tryz.prog 32 #[.pointer (some ⟨a0,0,none⟩)] wr fun e w'=>e=.returned (.tuple #[])∧RmPx w0 w' a0 a1 B T bs R.quiet Q :=
 h.callP fun r F ha hr=>by rw[← ha];exact Qqt hr hb hN hB hcl
theorem RmPx.quietR (h:RmPx w0 wr a0 a1 B T bs Q' R.z)(hb:RMb N Bd R)(hN:N≤1000000)(hB:Bd≤600000000)(hcl:R.cl.length≤1000) :
  Calls Tryz.prog 45 #[.pointer (some ⟨a1,0,none⟩)] wr fun e w'=>e=.returned (.tuple #[])∧RmPx w0 w' a0 a1 B T bs Q' R.quiet.z :=
 h.callR fun q F ha hq=>by rw[← ha];exact Qqk hq hb hN hB hcl
end
theorem Only.cell_ {S:Nat→Prop}{w w':World}{p:Addr}(ho:Only S w w')(hk:p.block<w.heap.size)(hn:¬ S p.block):w'.cell? p=w.cell? p:=by
 unfold World.cell?;rw[ho.block _ hk hn]
abbrev KS (a1 B bv o d:Nat)(V x0 x1 x2:Value)(w':World):Prop:=w'.cell? ⟨a1,1,none⟩=some V∧w'.cell? ⟨bv,o,none⟩=some (.pointer (some ⟨d,0,none⟩))∧w'.cell? ⟨B,0,none⟩=some x0∧w'.cell? ⟨B,1,none⟩=some x1∧w'.cell? ⟨B,2,none⟩=some x2∧a1<w'.heap.size∧bv<w'.heap.size∧B<w'.heap.size
theorem KS.only {a1 B bv o d:Nat}{V x0 x1 x2:Value}{w w':World}{S:Nat→Prop}(h:KS a1 B bv o d V x0 x1 x2 w)(ho:Only S w w')(h1:¬ S a1)(h2:¬ S bv)(h3:¬ S B):KS a1 B bv o d V x0 x1 x2 w':=by
 obtain⟨k1,k2,k3,k4,k5,k6,k7,k8⟩:=h;have hz:=ho.size
 exact⟨(ho.cell_ (p:=⟨a1,1,none⟩) k6 h1).trans k1,(ho.cell_ (p:=⟨bv,o,none⟩) k7 h2).trans k2,(ho.cell_ (p:=⟨B,0,none⟩) k8 h3).trans k3,(ho.cell_ (p:=⟨B,1,none⟩) k8 h3).trans k4,(ho.cell_ (p:=⟨B,2,none⟩) k8 h3).trans k5,by omega,by omega,by omega⟩
theorem KS.below {a1 B bv o d:Nat}{V x0 x1 x2:Value}{w w':World}(h:KS a1 B bv o d V x0 x1 x2 w)(hb:Below w.heap.size w w'):KS a1 B bv o d V x0 x1 x2 w' :=
 h.only (S:=fun _=>False) (Only.of_below hb) id id id
section
variable {w0 wr w':World}{a0 a1 B bv o:Nat}{T:TypeId}{x0 x1 x2 V:Value}{R:RM}{N Bd:Int}{r:RP}{q:RRP}{F:Nat→Prop}{C:CV}{c:CP}{d:RCP}{l:List PT}{v:Value}{k:Nat}
theorem RmPs.editP (h:RmPs w0 wr a0 a1 R R.z r q F)(hn:¬ F B)(hx:Blk wr B T #[x0,x1,x2])(hb:RMb N Bd R)(hN:N≤1000000)(hC:R.cl[k]?=some C)(hc:r.cs[k]?=some c)(hop:OpO F wr v l)(hl:l.length≤100000)
  (hbv:¬ F bv) (hk:KS a1 B bv o d.a V x0 x1 x2 wr) :
  Calls Tryz.prog 35 #[.pointer (some ⟨c.a,0,none⟩),v] wr fun e w'=>e=.returned (QC (C.edit l).1)∧KS a1 B bv o d.a V x0 x1 x2 w'∧∃ r' F',RmPs w0 w' a0 a1 (R.edit k l) R.z r' q F'∧¬ F' B∧¬ F' bv∧Blk w' B T #[x0,x1,x2]:=by
 refine (Qsi h.rm hb hN hC hc hop hl).mono ?_;rintro e w' ⟨rfl,hs⟩;obtain⟨r',F',k1,k2,k3,-⟩:=h.prog hs;have hlt:=hx.lt;have hbl:=hk.2.2.2.2.2.2.1;have ha1:¬ r.F a1:=fun e=>h.dis a1 e (.inl h.hb.symm)
 exact⟨rfl,hk.only k2 ha1 (fun e=>hbv (h.rm.sub _ e)) (fun e=>hn (h.rm.sub _ e)),r',F',k1,fun e=>(k3 B e).elim hn (fun e=>by omega),fun e=>(k3 bv e).elim hbv (fun e=>by omega),hx.only k2 (fun e=>hn (h.rm.sub B e))⟩
theorem RmPs.editR {R':RM}(h:RmPs w0 wr a0 a1 R' R.z r q F)(hn:¬ F B)(hbv:¬ F bv)(hx:Blk wr B T #[x0,x1,x2])(hb:RMb N Bd R)(hN:N≤1000000)(hC:R.cl[k]?=some C)(hd:q.cs[k]?=some d)(hop:OpO F wr v l)(hl:l.length≤100000)
  (hk:KS a1 B bv o d.a V x0 x1 x2 wr) :
  Calls Tryz.prog 36 #[.pointer (some ⟨d.a,0,none⟩),v] wr fun e w'=>e=.returned (.int .i64 (C.edit l).1)∧KS a1 B bv o d.a V x0 x1 x2 w'∧RmPx w0 w' a0 a1 B T #[x0,x1,x2] R' (R.edit k l).z:=by
 have hdr:=h.rr.cli k d C hd hC;refine (Qqf hdr (hb.ok.cl k C hC).ok hN hop hl).mono ?_;intro e w' hp;have ho:Only d.F wr w':=by obtain⟨c',-,ho,-⟩:=hp;exact ho
 obtain⟨rfl,hs⟩:=h.rr.client hd hC hp
 have e2:(R.edit k l).z=R.z.setc k (C.edit l).2:=by
  unfold RM.edit;rw[hC]
  rfl
 rw[e2];have hFd:∀ j,d.F j→F j:=hdr.sub;have ha1:¬ d.F a1:=fun e=>h.rr.a_c hd e h.hb.symm
 exact⟨rfl,hk.only ho ha1 (fun e=>hbv (hFd _ e)) (fun e=>hn (hFd _ e)),RmPx.ref h hn hx hs⟩
theorem RmPs.at_ (h:RmPs w0 wr a0 a1 R R.z r q F)(hx:Blk wr B T #[x0,x1,x2])(hC:R.cl[k]?=some C):∃ c d bv ov cc,r.cs[k]?=some c∧q.cs[k]?=some d∧k<R.cl.length∧¬ F bv∧KS a1 B bv (ov+k) d.a (.slice (some ⟨bv,ov,none⟩) R.cl.length cc) x0 x1 x2 wr:=by
 obtain⟨c,hc,-⟩:=h.rm.get hC;obtain⟨d,hd,-⟩:=h.rr.get (k:=k) (C:=C) hC;have hkl:=(Wai.1 hC).1;have hk:=(Wai.1 hd).1;have hlen:q.cs.length=R.cl.length:=h.rr.len;obtain⟨bv,ov,cc,hv,hb,c0⟩:=h.rr.vcs.one_at (k:=k) hk (u:=.pointer (some ⟨d.a,0,none⟩)) (by unfold Zf;rw[Wav,hd];rfl);obtain⟨z0,z1,z2,z3⟩:=Qk h.rr.blk;obtain⟨y0,y1,y2⟩:=Qy hx;rw[h.hb,hv,hlen] at z1
 exact⟨c,d,bv,ov,cc,hc,hd,hkl,fun e=>h.rr.vco ⟨bv,ov,none⟩ _ _ hv (by omega) e,z1,c0,y0,y1,y2,by rw[← h.hb];exact h.rr.blk.lt,hb,hx.lt⟩
end
end
end Go.Proofs.YtdgdajnbkfmijaaGreatDoor
