/- Texts of the proof. -/
import Derived.Test.YtdgdajnbkfmijaaGreatDoorM29
import Derived.Test.YtdgdajnbkfmijaaGreatDoorM14
import Derived.Test.YtdgdajnbkfmijaaGreatDoorM28
namespace Go.Proofs.YtdgdajnbkfmijaaGreatDoor
open Go.Proofs.Tryz
set_option maxRecDepth 100000
set_option maxHeartbeats 32000000
open Go.RowKit
namespace CL
theorem Qhy {l:List Cn}:∀ {k:Nat} {x:Cn},l[k]?=some x→(cnv l)[k*4]?=some (.int .i64 x.b)∧(cnv l)[k*4+1]?=some (.int .i64 x.h)∧(cnv l)[k*4+2]?=some (.int .i64 x.r)∧(cnv l)[k*4+3]?=some (.int .i64 x.l):=by
 induction l with
 | nil=>intro k x h;simp at h
 | cons y l ih =>
  intro k x h;have e:cnv (y :: l)=y.cells++cnv l:=by simp[cnv]
  cases k with
  | zero =>
   simp only[Waa,Option.some.injEq] at h;subst h;rw[e];exact⟨rfl,rfl,rfl,rfl⟩
  | succ k =>
   simp only[Wae] at h;obtain⟨h0,h1,h2,h3⟩:=ih h
   have g:∀ j,(cnv (y :: l))[(k+1)*4+j]?=(cnv l)[k*4+j]?:=fun j=>by
    rw[e,Way (by simp;omega)]
    congr 1;simp;omega
   exact⟨(g 0).trans h0,(g 1).trans h1,(g 2).trans h2,(g 3).trans h3⟩
theorem sl_cn {w:World}{l:List Cn}{v:Value}{n:Nat}(h:Sl w 4 v n (cnv l))(hn:0<n):∃ b o c,v=.slice (some ⟨b,o,none⟩) n c∧b<w.heap.size ∧
  ∀ k x,l[k]?=some x→w.cell? ⟨b,o+k*4,none⟩=some (.int .i64 x.b)∧w.cell? ⟨b,o+k*4+1,none⟩=some (.int .i64 x.h)∧w.cell? ⟨b,o+k*4+2,none⟩=some (.int .i64 x.r)∧w.cell? ⟨b,o+k*4+3,none⟩=some (.int .i64 x.l):=by
 obtain⟨A,c,rfl,h2,_,_,_,h5⟩:=h;obtain⟨ad,rfl,hb,hc⟩:=h5 hn;obtain⟨b,o,p⟩:=ad
 have hp:p=none:=by
  rw[Qik] at h2;have hl:0<l.length:=by omega
  have hz:=hc 0 (.int .i64 (l[0]'hl).b) (Qhy (Waj hl)).1
  have:(⟨b,o,p⟩:Addr).add 0=⟨b,o,p⟩:=by unfold Addr.add;rfl
  rw[this] at hz
  cases p with
  | none=>rfl
  | some x=>unfold World.cell? at hz;split at hz<;>simp at hz
 subst hp;refine⟨b,o,c,rfl,hb,fun k x hx=>?_⟩;obtain⟨h0,h1,h2,h3⟩:=Qhy hx;have g0:=hc _ _ h0;have g1:=hc _ _ h1;have g2:=hc _ _ h2;have g3:=hc _ _ h3;have am:∀ j,(⟨b,o,none⟩:Addr).add j=⟨b,o+j,none⟩:=fun j=>by cases j<;>rfl
 rw[am] at g0 g1 g2 g3
 exact⟨g0,g1,g2,g3⟩
end CL
def Qp7 (u at_:Int)(R:List Int)(w:World)(e:Ending)(w':World):Prop :=
 Below w.heap.size w w'∧∃ c k,e=.returned (.tuple #[c.v,.int .i64 k])∧QG u at_ R c (erV k)
attribute [local go_sem] Cn.v_eq
theorem Qc5 {R:List Int}{u at_:Int}{w:World}(hR:U.AllR R)(hl:bl R≤1000000) :
  Calls prog 125 #[.string ⟨(U.encs R).toArray⟩,.int .i64 u,.int .i64 at_] w (Qp7 u at_ R w):=by
 have hlen:(U.encs R).length=bl R:=rfl;have HA:=Hm hR;have HC:=fun w1=>Hm (Qa3 (U.sp_encs hR) w1 (by rw[hlen];omega))
 have HE:=fun w1=>Hm (Qrk (w:=w1) hR rfl (by rw[hlen];omega))
 by_cases hu:1≤u∧u≤3
 ·obtain⟨tot,htot⟩:∃ x,x=(cnt R).of u:=⟨_,rfl⟩;have HTOT:=Hm htot
  by_cases ha:0≤at_∧at_≤tot
  ·have hrl:R.length≤1000000:=by have:=QI R;omega
   have HU:=Hm hu;have HAT:=Hm ha;clear hR htot ha;go_enter func125,ntmps125
   have hz0:Qn (w.alloc (.cells #[.int .i64 0,.int .i64 0,.int .i64 0,.int .i64 0] 63)) w.heap.size Cn.zero:=Wbc w _;have HZ0:=Hm hz0;clear hz0
   go_wp2_with (first
    | (go_at_call_of 69 (Value.int .i64 u);refine (inT HU.o _).mono ?_;rintro e w3 ⟨rfl,rfl⟩)
    | (go_at_call 49;refine (HC _).out.mono ?_;rintro e w1 ⟨hb1,he,-⟩;obtain rfl:=he rfl;have HB1:=Hm (Qb (Qa (Wac _ _) _) hb1);have hz1:=HZ0.o.below hb1 HZ0.o.lt;have HZ1:=Hm hz1;clear hb1 he hz1;unfold QQ)
    | (go_at_call 124;refine (Yi (cnt R) u _).mono ?_;rintro e w2 ⟨rfl,hb2⟩;rw[← HTOT.o];have hz2:=(HZ1.o.below (Qa (Qa (Wac _ _) _) _) HZ1.o.lt).below hb2 (by have:=HZ1.o.lt;simp only[Waq];omega);have HZ2:=Hm hz2;have HB2:=Hm (Qb (Qa (Qa HB1.o _) _) hb2);clear hb2 hz2)
    | (go_at_call 69;refine (inT HAT.o _).mono ?_;rintro e w3 ⟨rfl,rfl⟩)
    | (go_at_call 156;refine (HE _).out.mono ?_;rintro e w4 ⟨⟨v,rfl,hsl⟩,hb4⟩;have HB4:=Hm (Qb HB2.o hb4);have hz4:=HZ2.o.below hb4 HZ2.o.lt;have HZ4:=Hm hz4;obtain⟨b,o,c,rfl,hbw,hcell⟩:=CL.sl_cn hsl (by omega);have HCL:=Hm hcell;clear hb4 hz4 hsl hcell))
   go_loopg [31] (R.length+1) (fun gk iv wr=>∃ k:Nat,iv=.int .i64 k∧k+gk=R.length+1∧Below w4.heap.size w4 wr∧(∀ j,j<k→(cnt (R.take j)).of u≠at_))
   case atStart=>exact⟨0,rfl,by omega,Wac _ _,fun j hj=>by omega⟩
   case round =>
    obtain⟨k,rfl,hk,hb,hno⟩:=hrel;have HK:=Hm hk;have HB:=Hm hb;have HNO:=Hm hno
    by_cases hkr:k<R.length+1
    ·have hki:(k:Int)<(R.length:Int)+1:=by omega
     have hx:=Qrf R (k:=R.length) (j:=k) (by omega);obtain⟨x,hxe⟩:∃ x,x=cnt (R.take k):=⟨_,rfl⟩;rw[← hxe] at hx;have HX:=Hm hxe;obtain⟨x0,x1,x2,x3⟩:=HCL.o k x hx;rw[← hb.cell (p:=⟨b,o+k*4,none⟩) hbw] at x0;rw[← hb.cell (p:=⟨b,o+k*4+1,none⟩) hbw] at x1;rw[← hb.cell (p:=⟨b,o+k*4+2,none⟩) hbw] at x2;rw[← hb.cell (p:=⟨b,o+k*4+3,none⟩) hbw] at x3;have hbr:b<wr.heap.size:=by have:=hb.size;omega
     clear hx hxe hk hb hno;obtain⟨v,hv⟩:∃ v,v=x.of u:=⟨_,rfl⟩;have HV:=Hm hv;have hzr:=HZ4.o.below HB.o HZ4.o.lt;have HZr:=Hm hzr;have hxn:Qn (wr.alloc (.cells #[.int .i64 x.b,.int .i64 x.h,.int .i64 x.r,.int .i64 x.l] 63)) wr.heap.size x:=Wbc wr _;have HXN:=Hm hxn;have HWW:=Hm (show w.heap.size<wr.heap.size from hzr.lt);clear hv hzr hxn
     by_cases hh:v=at_
     ·have hb1:(v == at_)=true:=by rw[beq_iff_eq];exact hh
      go_wp2_with (first | (go_at_call 124;refine (Yi x u _).mono ?_;rintro e w7 ⟨rfl,hb7⟩;rw[← HV.o];have hz7:=(HZr.o.below (Qa (Wac _ _) _) HZr.o.lt).below hb7 (by have:=HZr.o.lt;simp only[Waq];omega);have hx7:=HXN.o.below hb7 (by simp only[Waq];omega);have HZ7:=Hm hz7;have HX7:=Hm hx7;obtain⟨q0,q1,q2,q3⟩:=hx7.cells;obtain⟨s0,s1,s2,s3⟩:=hz7.cells;have sf:=hz7.frozen;have sl:=hz7.lt;have hne:=HWW.o;have HB7:=Hm (Qb (Qb HB4.o HB.o) (Qb (Qa (Wac _ _) _) hb7));clear hb7 hz7 hx7))
      obtain⟨f0,f1,f2,f3⟩:=(Js HZ7.o x).cells;refine Waz (v:=.tuple #[x.v,.int .i64 0]) (by rw[Cn.v_eq];simp[results,results125,go_sem,f0,f1,f2,f3]) rfl ?_;refine⟨XN HB7.o,x,0,rfl,fun h=>absurd h (by have:=HU.o;omega),fun _ h=>absurd h (by have:=HAT.o;have:=HTOT.o;omega),fun _ _=>.inl ⟨rfl,R.take k,R.drop k,by simp,?_,HX.o⟩⟩;rw[← HX.o,← HV.o];exact hh
     ·have hb1:(v == at_)=false:=by rw[Waf];exact hh
      go_wp2_with (first | (go_at_call 124;refine (Yi x u _).mono ?_;rintro e w7 ⟨rfl,hb7⟩;rw[← HV.o];have HB7:=Hm (Qb HB.o (Qb (Qa (Wac _ _) _) hb7));clear hb7))
      go_roundg (R.length+1-(k+1))
      case rel=>exact⟨k+1,by simp,by omega,HB7.o,fun j hj=>by
       by_cases e:j<k
       ·exact HNO.o j e
       ·obtain rfl:j=k:=by omega
        rw[← HX.o,← HV.o];exact hh⟩
      case measure=>have:=HK.o;omega
    ·obtain rfl:k=R.length+1:=by omega
     have hki:¬ ((R.length:Int)+1<(R.length:Int)+1):=by omega
     have hzr:=HZ4.o.below HB.o HZ4.o.lt;have HZr:=Hm hzr;obtain⟨s0,s1,s2,s3⟩:=hzr.cells;have sf:=hzr.frozen;have sl:=hzr.lt;clear hk hb hno hkr hzr;go_wp2_with fail;obtain⟨f0,f1,f2,f3⟩:=Qgv HZr.o _ rfl;refine Waz (v:=.tuple #[.agg #[.int .i64 0,.int .i64 0,.int .i64 0,.int .i64 0],.int .i64 10]) (by simp[results,results125,go_sem,f0,f1,f2,f3]) rfl ?_;refine⟨XN (Qb HB4.o HB.o),Cn.zero,10,rfl,fun h=>absurd h (by have:=HU.o;omega),fun _ h=>absurd h (by have:=HAT.o;have:=HTOT.o;omega),fun _ _=>.inr ⟨rfl,rfl,?_⟩⟩;rintro c' ⟨p,q,e1,e2,-⟩;refine HNO.o p.length ?_ ?_
     ·rw[e1,Wad];omega
     ·rw[e1,List.take_left];exact e2
  ·have HNA:=Hm ha;clear hR htot ha;have hz0:Qn (w.alloc (.cells #[.int .i64 0,.int .i64 0,.int .i64 0,.int .i64 0] 63)) w.heap.size Cn.zero:=Wbc w _;have HZ0:=Hm hz0;have HU:=Hm hu;clear hz0;go_enter func125,ntmps125
   go_wp2_with (first
    | (go_at_call_of 69 (Value.int .i64 u);refine (inT HU.o _).mono ?_;rintro e w3 ⟨rfl,rfl⟩)
    | (go_at_call 49;refine (HC _).out.mono ?_;rintro e w1 ⟨hb1,he,-⟩;obtain rfl:=he rfl;have HB1:=Hm (Qb (Qa (Wac _ _) _) hb1);have hz1:=HZ0.o.below hb1 HZ0.o.lt;have HZ1:=Hm hz1;clear hb1 he hz1;unfold QQ)
    | (go_at_call 124;refine (Yi (cnt R) u _).mono ?_;rintro e w2 ⟨rfl,hb2⟩;rw[← HTOT.o];have hz2:=(HZ1.o.below (Qa (Qa (Wac _ _) _) _) HZ1.o.lt).below hb2 (by have:=HZ1.o.lt;simp only[Waq];omega);have HZ2:=Hm hz2;obtain⟨q0,q1,q2,q3⟩:=hz2.cells;have qf:=hz2.frozen;have ql:=hz2.lt;have HB2:=Hm (Qb (Qa (Qa HB1.o _) _) hb2);clear hb2 hz2)
    | (go_at_call 69;refine (inF HNA.o _).mono ?_;rintro e w3 ⟨rfl,rfl⟩))
   obtain⟨f0,f1,f2,f3⟩:=Qgv HZ2.o _ rfl;refine Waz (v:=.tuple #[.agg #[.int .i64 0,.int .i64 0,.int .i64 0,.int .i64 0],.int .i64 2]) (by simp[results,results125,go_sem,f0,f1,f2,f3]) rfl ?_
   exact⟨XN HB2.o,Cn.zero,2,rfl,fun h=>absurd h (by have:=HU.o;omega),fun _ _=>⟨rfl,rfl⟩,fun _ h=>absurd (show at_<0∨(cnt R).of u<at_ by have:=HNA.o;have:=HTOT.o;omega) h⟩
 ·clear hR;go_enter func125,ntmps125
  go_wp2_with (go_at_call 69;refine (inF hu _).mono ?_;rintro e w3 ⟨rfl,rfl⟩)
  refine Waz (v:=.tuple #[.agg #[.int .i64 0,.int .i64 0,.int .i64 0,.int .i64 0],.int .i64 1]) (by simp[results,results125,go_sem]) rfl ?_
  exact⟨Qa (Wac _ _) _,Cn.zero,1,rfl,⟨fun _=>⟨rfl,rfl⟩,fun h=>absurd (by omega) h,fun h=>absurd (by omega) h⟩⟩
end Go.Proofs.YtdgdajnbkfmijaaGreatDoor
