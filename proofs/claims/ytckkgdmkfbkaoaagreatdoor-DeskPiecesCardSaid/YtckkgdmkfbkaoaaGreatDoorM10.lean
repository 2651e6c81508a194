/- Texts of the proof. -/
import Derived.Test.YtckkgdmkfbkaoaaGreatDoorM9
import Derived.Deep.RegionWith
namespace Go.Proofs.YtckkgdmkfbkaoaaGreatDoor
open Go.Proofs.Tryz
set_option maxRecDepth 100000
set_option maxHeartbeats 32000000
set_option linter.all false
open Go.RowKit
attribute [local go_sem ↓] Go.wp_at_zero Go.wp_at_succ
def cnt (rs:List Int):Cn:=rs.foldl (fun c r=>c.add (Q7 r (U.wid r))) Cn.zero
theorem YM (rs:List Int)(r:Int):cnt (rs++[r])=(cnt rs).add (Q7 r (U.wid r)):=by simp[cnt]
theorem Zk (rs:List Int):(cnt rs).In (4*rs.length)∧(cnt rs).b=U.off rs rs.length∧(cnt rs).r=rs.length:=by
 suffices h:∀ n (rs:List Int),rs.length=n→(cnt rs).In (4*n)∧(cnt rs).b=(U.encs rs).length∧(cnt rs).r=n by
  obtain⟨h1,h2,h3⟩:=h _ rs rfl
  exact⟨h1,by rw[U.off_full];exact h2,h3⟩
 intro n
 induction n with
 | zero =>
  intro rs h;obtain rfl:=List.eq_nil_of_length_eq_zero h
  exact⟨⟨by decide,by decide,by decide,by decide,by decide,by decide,by decide,by decide⟩,rfl,rfl⟩
 | succ n ih =>
  intro rs h;have hne:rs≠[]:=by intro e;subst e;simp at h
  have e:=List.dropLast_concat_getLast hne;generalize rs.getLast hne=r at e;generalize rs.dropLast=l at e;subst e;have hl:l.length=n:=by simpa using h
  obtain⟨⟨b0,b1,h0,h1,r0,r1,l0,l1⟩,h2,h3⟩:=ih l hl;have hw:=U.wid_le r;rw[YM];unfold Q7 Cn.add;refine⟨⟨?_,?_,?_,?_,?_,?_,?_,?_⟩,?_,?_⟩
  all_goals dsimp only
  all_goals try split
  all_goals try (rw[U.encs_append,Wad,U.encs_cons,U.encs_nil,Wam,U.enc_length])
  all_goals omega
theorem Qa6 (r:Int):(Q7 r (U.wid r)).In 4:=by
 have hw:=U.wid_le r;unfold Q7;refine⟨?_,?_,?_,?_,?_,?_,?_,?_⟩
 all_goals dsimp only
 all_goals try split
 all_goals omega
def Qg (w:World)(g:Nat)(x:Cn):Prop:=w.heap[g]?=some (.cells #[.int .i64 x.b,.int .i64 x.h,.int .i64 x.r,.int .i64 x.l] 125 (0,0))
theorem Qg.lt {w:World}{g:Nat}{x:Cn}(h:Qg w g x):g<w.heap.size:=(Wbm.1 h).1
theorem Qg.below {w w':World}{B g:Nat}{x:Cn}(h:Qg w g x)(hb:Below B w w')(hg:g<B):Qg w' g x:=(hb.block g hg).trans h
theorem Qg.cells {w:World}{g:Nat}{x:Cn}(h:Qg w g x):w.cell? ⟨g,0,none⟩=some (.int .i64 x.b)∧w.cell? ⟨g,1,none⟩=some (.int .i64 x.h)∧w.cell? ⟨g,2,none⟩=some (.int .i64 x.r)∧w.cell? ⟨g,3,none⟩=some (.int .i64 x.l):=by
 unfold Qg at h;simp[World.cell?,h]
theorem Qg.frozen {w:World}{g:Nat}{x:Cn}(h:Qg w g x):∀ i,w.frozen? ⟨g,i,none⟩=false:=by
 unfold Qg at h;intro i;simp[World.frozen?,h]
theorem Qg.set4 {F:World→Prop}{w:World}{g:Nat}{x y:Cn}(h:Qg w g x)
  (k:∀ w3,Qg w3 g y→(∀ B,B≤g→Below B w w3)→w3.heap.size=w.heap.size→(∀ g',g'≠g→w3.heap[g']?=w.heap[g']?)→F w3) :
  F ((((w.setCell ⟨g,0,none⟩ (.int .i64 y.b)).setCell ⟨g,1,none⟩ (.int .i64 y.h)).setCell ⟨g,2,none⟩ (.int .i64 y.r)).setCell ⟨g,3,none⟩ (.int .i64 y.l)):=by
 refine k _ ?_ (fun B hB=>((((Wac B w).setCell hB _).setCell hB _).setCell hB _).setCell hB _) (by simp) (fun g' hg=>?_)
 ·unfold Qg at h ⊢;simp[World.setCell,Array.getElem?_modify,h]
 ·rw[Below.heap_setCell _ _ _ _ hg,Below.heap_setCell _ _ _ _ hg,Below.heap_setCell _ _ _ _ hg,Below.heap_setCell _ _ _ _ hg]
def Qua (rs:List Int)(rest:U.Bs)(w:World)(e:Ending)(w':World):Prop :=
 Below w.heap.size w w'∧(rest=[]→e=.returned (.tuple #[(cnt rs).v,.nilIface])) ∧
  (rest≠[]→∃ g,e=.returned (.tuple #[Cn.zero.v,atV g])∧QU w' g 3 (U.off rs rs.length))
section
attribute [local go_sem] Xf
theorem Xv {s:U.Bs}{rs:List Int}{rest:U.Bs}(h:U.Sp s rs rest)(w:World)(hs:s.length≤35184372087808) :
  Calls prog 133 #[.string ⟨s.toArray⟩] w (Qua rs rest w):=by
 have H:=Hm h;have hlen:=h.length;have hll:=U.len_le_off rs;clear h;have HL:=Hm hlen;have hle:U.off rs rs.length≤s.length:=by omega
 clear hlen;have hsz:s.length≤35184372087808:=hs;clear hs;go_enter func133,ntmps133
 go_wp2_with fail
 go_loopw [3,5] (fun n i wr=>n=.nilIface∧∃ k:Nat,k≤rs.length∧i=.int .i64 (U.off rs k)∧Qg wr w.heap.size Cn.zero∧Qg wr (w.heap.size+1) (cnt (rs.take k))∧Below w.heap.size w wr) (fun _ i _=>s.length-(intOf i).toNat)
 case atStart =>
  refine⟨rfl,0,by omega,rfl,?_,?_,((Wac _ _).alloc (Wak _) _).alloc (by simp) _⟩
  ·unfold Qg;rw[Below.heap_alloc _ _ _ (by simp),Wbc];rfl
  ·have:=Wbc (w.alloc (.cells #[.int .i64 0,.int .i64 0,.int .i64 0,.int .i64 0] 125)) (.cells #[.int .i64 0,.int .i64 0,.int .i64 0,.int .i64 0] 125)
   rw[Waq] at this;exact this
 case round =>
  obtain⟨rfl,k,hk,rfl,hz0,hc0,hbel⟩:=hrel;have hok:U.off rs k≤U.off rs rs.length:=U.off_le hk
  by_cases hlt:k<rs.length
  ·have hol:U.off rs k<U.off rs rs.length:=U.off_lt hlt;have HN:=Hm (H.o.next_at hlt);have HO:=Hm (U.off_succ hlt);have hw1:=U.wid_pos rs[k];have hw2:=U.wid_le rs[k];generalize hr:rs[k]=r at *;have HR:=Hm hr;clear hr;have hlt':U.off rs k<s.length:=by omega
   have hn0:((U.wid r:Int) == 0)=false:=by rw[Waf];omega
   have hb0:=hbel.size;have HZ:=Hm hz0;have HC:=Hm hc0;have hcl:=hc0.lt;have HBEL:=Hm hbel;obtain⟨c0,c1,c2,c3⟩:=hc0.cells;have hfz:=hc0.frozen;generalize hc:cnt (rs.take k)=c at *;have HCC:=Hm hc;clear hz0 hc0 hbel hc;go_wp2_with (go_at_call 181;refine (next_at HN.o _ (by rw[War];omega)).mono ?_;rintro e w' ⟨rfl,rfl⟩)
   have HCd:Hd (Qg wr.drew (w.heap.size+1) c):=⟨HC.o⟩;have HI1:=Hm (HCC.o ▸ (Zk (rs.take k)).1)
   have hci:c.In 2305843009213693952:=by
    obtain⟨⟨b0,b1,h0,h1,r0,r1,l0,l1⟩,_,_⟩:=Zk (rs.take k);rw[Wbb] at b1 h1 r1 l1;rw[← HCC.o]
    exact⟨b0,by omega,h0,by omega,r0,by omega,l0,by omega⟩
   have hoi:(Q7 r (U.wid r)).In 2305843009213693952:=by
    obtain⟨b0,b1,h0,h1,r0,r1,l0,l1⟩:=Qa6 r
    exact⟨b0,by omega,h0,by omega,r0,by omega,l0,by omega⟩
   have HCI:=Hm hci;have HOI:=Hm hoi;clear hci hoi HI1;go_region_with (first | (go_at_call 183;refine (Qfo r (U.wid r) _).mono ?_;rintro e w1 ⟨rfl,hb1⟩;have hC1:=HCd.o.below hb1 (by simp;omega);obtain⟨d0,d1,d2,d3⟩:=hC1.cells;have HC1:=Hm hC1;have HB1:=Hm hb1;clear hC1 hb1) | (go_at_call 182;refine (Zm c (Q7 r (U.wid r)) _ HCI.o HOI.o).mono ?_;rintro e w2 ⟨rfl,hb2⟩;have hC2:=HC1.o.below hb2 HC1.o.lt;obtain⟨g0,g1,g2,g3⟩:=hC2.cells;have hfz2:=hC2.frozen;have HC2:=Hm hC2;have HB2:=Hm hb2;clear hC2 hb2))
   all_goals
    refine HC2.o.set4 (F:=Exit.then _ _ Exit.normal _) ?_;intro w3 hC3 hB3 hs3 hf3;have hb1:Below wr.heap.size wr w1:=Qeb HB1.o;have hb2:=HB2.o;have hz3:Qg w3 w.heap.size Cn.zero:=(hf3 _ (by omega)).trans ((HZ.o.below hb1 (by omega)).below hb2 (by have:=hb1.size;omega));have hbel3:Below w.heap.size w w3:=((HBEL.o.trans (hb1.mono hb0)).trans (hb2.mono (by have:=hb1.size;omega))).trans (hB3 _ (by omega));have HZ3:=Hm hz3;have HC3:=Hm hC3;have HB3:=Hm hbel3;clear hb1 hb2 hz3 hbel3 hC3 hB3 hs3 hf3 c0 c1 c2 c3 d0 d1 d2 d3 g0 g1 g2 g3 hfz hfz2;go_wp2_with fail;refine⟨⟨rfl,k+1,by omega,by rw[HO.o];go_num,HZ3.o,?_,HB3.o⟩,?_⟩
    ·rw[Wag hlt,YM,HCC.o,HR.o];exact HC3.o
    ·simp only[intOf];omega
  ·obtain rfl:k=rs.length:=by omega
   rw[Wbe] at hc0;have hb0:=hbel.size;have hcl:=hc0.lt;have HBEL:=Hm hbel
   by_cases hr:rest=[]
   ·subst hr;have hge:¬ U.off rs rs.length<s.length:=by have:=HL.o;simp at this;omega
    obtain⟨c0,c1,c2,c3⟩:=hc0.cells;obtain⟨z0,z1,z2,z3⟩:=hz0.cells;have hfz:=hz0.frozen;have HZ:=Hm hz0;clear hlt hc0 hz0 hbel;go_wp2_with fail;refine HZ.o.set4 (F:=fun W=>bodyPost _ _ _ Exit.ret _ W) (y:=cnt rs) ?_;intro w3 hC3 hB3 hs3 hf3;obtain⟨g0,g1,g2,g3⟩:=hC3.cells;refine Waz (v:=.tuple #[(cnt rs).v,.nilIface]) (by simp[results,results133,go_sem,g0,g1,g2,g3]) rfl ?_
    exact⟨HBEL.o.trans (hB3 _ (Wak _)),fun _=>rfl,fun h=>absurd rfl h⟩
   ·have hlt':U.off rs rs.length<s.length:=by
     have:=HL.o
     have h2:0<rest.length:=Wax.2 hr;omega
    have HN:=Hm H.o.next_end;have HR:=Hm hr;have hbm:Below wr.heap.size wr (wr.alloc (.cells #[.int .i64 3,.int .i64 (U.off rs rs.length)] 181)):=(Wac _ _).alloc (Wak _) _;have hz1:=hz0.below hbm (by omega);have HZ:=Hm hz1;obtain⟨z0,z1,z2,z3⟩:=hz1.cells;have hfz:=hz1.frozen;clear hlt hr hbm hc0 hz0 hz1 hbel;go_wp2_with (go_at_call 181;refine (next_at HN.o _ (by rw[War];omega)).mono ?_;rintro e w' ⟨rfl,rfl⟩)
    refine HZ.o.set4 (F:=fun W=>bodyPost _ _ _ Exit.ret _ W) (y:=Cn.zero) ?_;intro w3 hC3 hB3 hs3 hf3;obtain⟨g0,g1,g2,g3⟩:=hC3.cells;refine Waz (v:=.tuple #[Cn.zero.v,atV wr.heap.size]) (by simp[results,results133,go_sem,g0,g1,g2,g3,atV]) rfl ?_;refine⟨(HBEL.o.alloc (by omega) _).trans (hB3 _ (Wak _)),fun h=>absurd h HR.o,fun _=>⟨wr.heap.size,rfl,?_⟩⟩;exact (hf3 _ (by omega)).trans (Wbc wr _)
end
end Go.Proofs.YtckkgdmkfbkaoaaGreatDoor
