/- Texts of the proof. -/
import Derived.Test.YtdgdajnbkfmijaaGreatDoorM18
import Derived.Lib.Bytealg
namespace Go.Proofs.YtdgdajnbkfmijaaGreatDoor
open Go.Proofs.Tryz
set_option maxRecDepth 100000
set_option maxHeartbeats 32000000
open Go.RowKit
theorem Qq1 (rs:List Int)(k:Nat):U.hoff rs k≤2*k:=by
 have:=U.hvs_len_le (rs.take k)
 rw[Wbb] at this;unfold U.hoff;omega
theorem Qq2 {rs:List Int}{v:Value}{w:World}(hall:U.AllR rs)(hsl:Sl w 1 v rs.length (Qs rs))(hn:rs.length≤35184372087808) :
  Calls prog 90 #[v] w fun e w'=>(∃ v',e=.returned v'∧Sl w' 1 v' (U.hvs rs).length (Qv (U.hvs rs)))∧Below w.heap.size w w':=by
 have HSL:=Hm hsl;have HA:=Hm hall;obtain⟨A,c,rfl,-⟩:=hsl;clear hall;go_enter func90,ntmps90
 go_wp2_with fail
 go_loopw [3,9] (fun b i wr=>∃ k:Nat,k≤rs.length∧i=.int .i64 k∧wr.ownsRow w.heap.size 205 1 b (U.hoff rs k) (Qv (U.hvs (rs.take k)))∧Below w.heap.size w wr) (fun _ i _=>rs.length-(intOf i).toNat)
 case atStart=>exact⟨0,by omega,rfl,World.ownsRow_nil _ _ _ _,Wac _ _⟩
 case round =>
  obtain⟨k,hk,rfl,hown,hbel⟩:=hrel;have hb0:=hbel.size;have HB:=Hm hbel
  by_cases hkn:k<rs.length
  ·obtain⟨ad,c',u,hv,_,hu,hc⟩:=(HSL.o.below hbel).at_ hkn
   cases hv
   have hu2:u=.int .i32 rs[k]:=by
    unfold Qs at hu;rw[Wav,Waj hkn] at hu;simpa using hu.symm
   subst hu2;have hrr:=U.right_iff.1 (HA.o _ (Wau hkn));have HHO:=Hm (U.hoff_succ hkn);have HTK:Hd (U.hvs (rs.take (k+1))=U.hvs (rs.take k)++U.hv rs[k]):=⟨by rw[Wag hkn,U.hvs_append,U.hvs_cons,U.hvs_nil,Wam]⟩;have hol:=Qq1 rs k;generalize rs[k]=r at hrr hc HHO HTK;have hr0:0≤r:=by omega
   have hr1:r≤1114111:=by omega
   have HOW:=Hm hown;clear hrr hown hbel hu
   by_cases hsm:r<65536
   ·have e1:U.hv r=[r]:=by unfold U.hv;rw[if_pos hsm]
    have e2:U.hwid r=1:=by unfold U.hwid;rw[if_pos hsm]
    have HE:=Hm (Wao e1 e2);clear e1 e2;go_wp2_with (at_builtin;refine Z9 XK #[.int .u16 r] HOW.o rfl rfl rfl rfl rfl (Yz rfl) (by unfold maxLen;omega) (by omega) hb0 ?_;intro v1 w2 hown1 hbel1 _)
    refine⟨⟨k+1,by omega,by go_num,?_,HB.o.trans hbel1⟩,?_⟩
    ·rw[HHO.o,HTK.o,HE.o.1,HE.o.2,XL];exact hown1
    ·simp only[intOf];omega
   ·have e1:U.hv r=[55296+(r-65536) / 1024,56320+(r-65536) % 1024]:=by unfold U.hv;rw[if_neg hsm]
    have e2:U.hwid r=2:=by unfold U.hwid;rw[if_neg hsm]
    have HE:=Hm (Wao e1 e2);clear e1 e2;go_wp2_with (at_builtin;refine Z9 XK #[.int .u16 (55296+(r-65536) / 1024),.int .u16 (56320+(r-65536) % 1024)] HOW.o rfl rfl rfl rfl rfl (Xo rfl rfl) (by unfold maxLen;omega) (by omega) hb0 ?_;intro v1 w2 hown1 hbel1 _)
    refine⟨⟨k+1,by omega,by go_num,?_,HB.o.trans hbel1⟩,?_⟩
    ·rw[HHO.o,HTK.o,HE.o.1,HE.o.2,XL];exact hown1
    ·simp only[intOf];omega
  ·obtain rfl:k=rs.length:=by omega
   rw[Wbe,U.hoff_full] at hown;have hsl:=Sl.of_own hown;have HS2:=Hm hsl;clear hown hbel hsl;go_wp2_with fail;go_ret
   exact⟨⟨_,rfl,HS2.o⟩,HB.o⟩
theorem Qq3 (s:ByteArray)(c:UInt8)(w:World) :
  Calls prog 91 #[.string s,.string ⟨#[c]⟩] w fun e w'=>e=.returned (.int .i64 (Lib.countByte s.data.toList c))∧w'=w:=by
 go_enter func91,ntmps91
 go_wp2
 rw[run_callFunc_extern func138 (by kernel_rfl) (by kernel_rfl) (by kernel_rfl) (e:=Extern.BytealgCount.count) (by kernel_rfl),Lib.run_countString];simp only[Result.andThen];rw[Oper.upon_value];go_wp2
 go_ret
 exact⟨rfl,rfl⟩
theorem Y2 {x:Int}(h0:0≤x)(h1:x<256)(hx:x≠10):(U.by8 x == 10)=false:=by
 rw[Waf];intro e;have t:=U.by8_toNat h0 h1;rw[e] at t;have h10:(((10:UInt8).toNat:Nat):Int)=10:=rfl;omega
theorem Qq4 {r:Int}(h:U.right r=true):(U.enc r).count 10=if r=10 then 1 else 0:=by
 have hr:=U.right_iff.1 h;unfold U.enc
 by_cases c1:r<128
 ·rw[if_pos c1]
  by_cases e:r=10
  ·subst e;rfl
  ·rw[if_neg e,List.count_cons,Y2 (by omega) (by omega) e];rfl
 ·rw[if_neg c1,if_neg (show ¬ r=10 by omega)]
  by_cases c2:r<2048
  ·rw[if_pos c2,List.count_cons,List.count_cons,Y2 (by omega) (by omega) (by omega),Y2 (by omega) (by omega) (by omega)];rfl
  ·rw[if_neg c2]
   by_cases c3:r<65536
   ·rw[if_pos c3,List.count_cons,List.count_cons,List.count_cons,Y2 (by omega) (by omega) (by omega),Y2 (by omega) (by omega) (by omega),Y2 (by omega) (by omega) (by omega)];rfl
   ·rw[if_neg c3,List.count_cons,List.count_cons,List.count_cons,List.count_cons,Y2 (by omega) (by omega) (by omega),Y2 (by omega) (by omega) (by omega),Y2 (by omega) (by omega) (by omega),Y2 (by omega) (by omega) (by omega)];rfl
theorem Qdi {rs:List Int}(h:U.AllR rs):cnt rs=⟨(U.encs rs).length,(U.hvs rs).length,rs.length,((U.encs rs).count 10:Nat)⟩:=by
 suffices hs:∀ n (rs:List Int),rs.length=n→U.AllR rs→cnt rs=⟨(U.encs rs).length,(U.hvs rs).length,rs.length,((U.encs rs).count 10:Nat)⟩ from hs _ rs rfl h
 clear h rs;intro n
 induction n with
 | zero=>intro rs hl _;obtain rfl:=List.eq_nil_of_length_eq_zero hl;rfl
 | succ n ih =>
  intro rs hl ha;rcases List.eq_nil_or_concat rs with rfl | ⟨a,r,rfl⟩
  ·simp at hl
  ·rw[List.concat_eq_append] at *;have hr:U.right r=true:=ha r (by simp);have ha':U.AllR a:=fun x hx=>ha x (by simp[hx])
   rw[YQ,ih a (by simpa using hl) ha',U.encs_append,U.hvs_append,U.encs_cons,U.encs_nil,U.hvs_cons,U.hvs_nil,Wam,Wam,List.count_append,Qq4 hr];simp only[Cn.add,QM,Wad,U.hv_length,U.enc_length,Wan,List.length_nil];refine Cn.mk.injEq .. |>.mpr ⟨by omega,?_,by omega,?_⟩
   ·unfold U.hwid
    split<;>split<;>omega
   ·split<;>omega
def Qq5 (rs:List Int)(rest:U.Bs)(w:World)(e:Ending)(w':World):Prop :=
 Below w.heap.size w w'∧(rest=[]→e=.returned (.tuple #[(cnt rs).v,QQ 0 (-1)])) ∧
  (rest≠[]→e=.returned (.tuple #[Cn.zero.v,QQ 3 (U.off rs rs.length)]))
theorem Qij {w:World}{g:Nat}{x y:Cn}{a b p q:Value}(h0:Qn w g x)(h1:Blk w (g+1) 31 #[a,b]){W:World}
  (hW:W=(((((w.setCell ⟨g,0,none⟩ (.int .i64 y.b)).setCell ⟨g,1,none⟩ (.int .i64 y.h)).setCell ⟨g,2,none⟩ (.int .i64 y.r)).setCell ⟨g,3,none⟩ (.int .i64 y.l)).setCell ⟨g+1,0,none⟩ p).setCell ⟨g+1,1,none⟩ q) :
  Qn W g y∧Blk W (g+1) 31 #[p,q]∧(∀ B,B≤g→Below B w W)∧W.heap.size=w.heap.size:=by
 subst hW;refine h0.set4 (F:=fun V=>Qn ((V.setCell ⟨g+1,0,none⟩ p).setCell ⟨g+1,1,none⟩ q) g y∧Blk ((V.setCell ⟨g+1,0,none⟩ p).setCell ⟨g+1,1,none⟩ q) (g+1) 31 #[p,q]∧(∀ B,B≤g→Below B w ((V.setCell ⟨g+1,0,none⟩ p).setCell ⟨g+1,1,none⟩ q))∧((V.setCell ⟨g+1,0,none⟩ p).setCell ⟨g+1,1,none⟩ q).heap.size=w.heap.size) ?_;intro V hV hB hs hf;have h1':Blk V (g+1) 31 #[a,b]:=(hf (g+1) (by omega)).trans h1;refine⟨?_,(h1'.set_ 0 p).set_ 1 q,fun B hb=>((hB B hb).setCell (p:=⟨g+1,0,none⟩) (show B≤g+1 by omega) _).setCell (p:=⟨g+1,1,none⟩) (show B≤g+1 by omega) _,by simp[hs]⟩;exact (Below.heap_setCell _ ⟨g+1,1,none⟩ q g (by simp)).trans ((Below.heap_setCell _ ⟨g+1,0,none⟩ p g (by simp)).trans hV)
theorem Qq6 {F:World→Prop}{w:World}{g:Nat}{x y:Cn}{a b p q:Value}(h0:Qn w g x)(h1:Blk w (g+1) 31 #[a,b])
  (k:∀ W,Qn W g y→Blk W (g+1) 31 #[p,q]→(∀ B,B≤g→Below B w W)→F W) :
  F ((((((w.setCell ⟨g,0,none⟩ (.int .i64 y.b)).setCell ⟨g,1,none⟩ (.int .i64 y.h)).setCell ⟨g,2,none⟩ (.int .i64 y.r)).setCell ⟨g,3,none⟩ (.int .i64 y.l)).setCell ⟨g+1,0,none⟩ p).setCell ⟨g+1,1,none⟩ q):=by
 obtain⟨x1,x2,x3,_⟩:=Qij (y:=y) (p:=p) (q:=q) h0 h1 rfl;exact k _ x1 x2 x3
theorem Qa3 {s:U.Bs}{rs:List Int}{rest:U.Bs}(h:U.Sp s rs rest)(w:World)(hs:s.length≤35184372087808) :
  Calls prog 49 #[.string ⟨s.toArray⟩] w (Qq5 rs rest w):=by
 have H:=Hm h;have hlen:=h.length;have hll:=U.len_le_off rs
 by_cases hr:rest=[]
 ·have hrl:rs.length≤35184372087808:=by omega
  have HF:Hd ((cnt rs).v=.agg #[.int .i64 s.length,.int .i64 (U.hvs rs).length,.int .i64 rs.length,.int .i64 (Lib.countByte s 10:Nat)]):=⟨by
   rw[Qdi h.all]
   have:s=U.encs rs:=by have:=h.eq;rw[hr,Wam] at this;exact this
   rw[this];rfl⟩
  have hcb:(Lib.countByte s 10:Nat)≤s.length:=List.count_le_length;have hhl:=U.hvs_len_le rs;have HR:=Hm hr;clear h hlen hll;go_enter func49,ntmps49
  go_wp2_with fail;refine (XO H.o _ hs).mono ?_;rintro e w1 ⟨hb1,hok,_⟩;obtain⟨v,rfl,hsl⟩:=hok HR.o;have HS:=Hm hsl;have HB1:=Hm hb1;obtain⟨A,c,rfl,-⟩:=hsl
  have hR0:Qn w1 w.heap.size Cn.zero:=by
   have h0:Qn ((w.alloc (.cells #[.int .i64 0,.int .i64 0,.int .i64 0,.int .i64 0] 63)).alloc (.cells #[.int .i64 0,.int .i64 0] 31)) w.heap.size Cn.zero:=(Blk.new _ _ _).alloc _;exact h0.below hb1 (by simp only[Waq];omega)
  have hR1:Blk w1 (w.heap.size+1) 31 #[.int .i64 0,.int .i64 0]:=by
   have h0:=Blk.new (w.alloc (.cells #[.int .i64 0,.int .i64 0,.int .i64 0,.int .i64 0] 63)) 31 #[.int .i64 0,.int .i64 0];rw[Waq] at h0;exact h0.below hb1 (by simp only[Waq];omega)
  have HR0:=Hm hR0;have HR1:=Hm hR1;obtain⟨z0,z1,z2,z3⟩:=hR0.cells;have zf:=hR0.frozen;have y0:=hR1.cell 0;have y1:=hR1.cell 1;have yf:=hR1.frozen;have l0:=hR0.lt;have l1:=hR1.lt;simp only[Wab,Waa,Wae] at y0 y1;clear hR0 hR1;clear hok hr hb1;unfold QQ;go_wp2_with fail;have HSd:Hd (Sl ((w1.alloc (.cells #[.int .i64 0,.int .i64 (-1)] 31)).drew) 1 (.slice A rs.length c) rs.length (Qs rs)):=⟨HS.o.below (Qe (Qa (Wac _ _) _))⟩
  have HRd:Hd (Qn ((w1.alloc (.cells #[.int .i64 0,.int .i64 (-1)] 31)).drew) w.heap.size Cn.zero∧Blk ((w1.alloc (.cells #[.int .i64 0,.int .i64 (-1)] 31)).drew) (w.heap.size+1) 31 #[.int .i64 0,.int .i64 0]∧Blk ((w1.alloc (.cells #[.int .i64 0,.int .i64 (-1)] 31)).drew) w1.heap.size 31 #[.int .i64 0,.int .i64 (-1)]) :=
   ⟨(Below.heap_alloc w1 _ _ l0).trans HR0.o,HR1.o.alloc _,Blk.new _ _ _⟩
  have HBd:Hd (Below w.heap.size w ((w1.alloc (.cells #[.int .i64 0,.int .i64 (-1)] 31)).drew)):=⟨Qe (Qa ((Qa (Qa (Wac _ _) _) _).trans (HB1.o.mono (by simp only[Waq];omega))) _)⟩;go_region_with (first | (go_at_call 90;refine (Qq2 H.o.all HSd.o hrl).mono ?_;rintro e w2 ⟨⟨v2,rfl,hs2⟩,hb2⟩;have HB2:=Hm hb2;obtain⟨A2,c2,rfl,-⟩:=hs2;have r0:=HRd.o.1.below hb2 HRd.o.1.lt;have r1:=HRd.o.2.1.below hb2 HRd.o.2.1.lt;have r2:=HRd.o.2.2.below hb2 HRd.o.2.2.lt;obtain⟨u0,u1,u2,u3⟩:=r0.cells;have uf:=r0.frozen;have v0:=r1.cell 0;have v1:=r1.cell 1;have vf:=r1.frozen;have t0:=r2.cell 0;have t1:=r2.cell 1;simp only[Wab,Waa,Wae] at v0 v1 t0 t1;have HU0:=Hm r0;have HU1:=Hm r1;clear hb2 r0 r1 r2) | (go_at_call 91;refine (Qq3 _ _ _).mono ?_;rintro e w3 ⟨rfl,rfl⟩))
  all_goals
   go_wp2_with fail;refine Qq6 (F:=fun W=>bodyPost _ _ _ Exit.ret _ W) (y:=⟨s.length,(U.hvs rs).length,rs.length,(Lib.countByte s 10:Nat)⟩) HU0.o HU1.o ?_;intro W x1 x2 x3;obtain⟨g0,g1,g2,g3⟩:=x1.cells;have g4:=x2.cell 0;have g5:=x2.cell 1;simp only[Wab,Waa,Wae] at g4 g5;refine Waz (v:=.tuple #[(cnt rs).v,.agg #[.int .i64 0,.int .i64 (-1)]]) (by rw[HF.o];simp[results,results49,go_sem,g0,g1,g2,g3,g4,g5]) rfl ?_;refine⟨?_,fun _=>rfl,fun h=>absurd HR.o h⟩;exact (Qb HBd.o HB2.o).trans (x3 _ (Wak _))
 ·clear hlen hll;go_enter func49,ntmps49
  go_wp2_with fail;refine (XO H.o _ hs).mono ?_;rintro e w1 ⟨hb1,_,hbad⟩;obtain rfl:=hbad hr;have HB1:=Hm hb1;have HR:=Hm hr
  have hR0:Qn w1 w.heap.size Cn.zero:=by
   have h0:Qn ((w.alloc (.cells #[.int .i64 0,.int .i64 0,.int .i64 0,.int .i64 0] 63)).alloc (.cells #[.int .i64 0,.int .i64 0] 31)) w.heap.size Cn.zero:=(Blk.new _ _ _).alloc _;exact h0.below hb1 (by simp only[Waq];omega)
  have hR1:Blk w1 (w.heap.size+1) 31 #[.int .i64 0,.int .i64 0]:=by
   have h0:=Blk.new (w.alloc (.cells #[.int .i64 0,.int .i64 0,.int .i64 0,.int .i64 0] 63)) 31 #[.int .i64 0,.int .i64 0];rw[Waq] at h0;exact h0.below hb1 (by simp only[Waq];omega)
  have HR0:=Hm hR0;have HR1:=Hm hR1;obtain⟨z0,z1,z2,z3⟩:=hR0.cells;have zf:=hR0.frozen;have y0:=hR1.cell 0;have y1:=hR1.cell 1;have yf:=hR1.frozen;have l0:=hR0.lt;have l1:=hR1.lt;simp only[Wab,Waa,Wae] at y0 y1;clear hR0 hR1;clear hbad hr hb1;unfold QQ;go_wp2_with fail;go_region
  all_goals
   go_wp2_with fail;obtain⟨W,hW⟩:∃ W,W=(((((w1.setCell ⟨w.heap.size,0,none⟩ (.int .i64 0)).setCell ⟨w.heap.size,1,none⟩ (.int .i64 0)).setCell ⟨w.heap.size,2,none⟩ (.int .i64 0)).setCell ⟨w.heap.size,3,none⟩ (.int .i64 0)).setCell ⟨w.heap.size+1,0,none⟩ (.int .i64 3)).setCell ⟨w.heap.size+1,1,none⟩ (.int .i64 (U.off rs rs.length)):=⟨_,rfl⟩;obtain⟨x1,x2,x3,x4⟩:=Qij (y:=Cn.zero) HR0.o HR1.o hW;rw[← hW];have x5:=Qn.cells (show Qn ((W.alloc (.cells #[.int .i64 3,.int .i64 (U.off rs rs.length)] 31)).drew) w.heap.size Cn.zero from (Below.heap_alloc W _ _ x1.lt).trans x1);have x6:Blk ((W.alloc (.cells #[.int .i64 3,.int .i64 (U.off rs rs.length)] 31)).drew) (w.heap.size+1) 31 #[.int .i64 3,.int .i64 (U.off rs rs.length)]:=x2.alloc _;obtain⟨g0,g1,g2,g3⟩:=x5;have g4:=x6.cell 0;have g5:=x6.cell 1;simp only[Wab,Waa,Wae] at g4 g5;refine Waz (v:=.tuple #[Cn.zero.v,.agg #[.int .i64 3,.int .i64 (U.off rs rs.length)]]) (by simp[results,results49,go_sem,g0,g1,g2,g3,g4,g5]) rfl ?_
   exact⟨Qe (Qa ((Qa (Qa (Wac _ _) _) _).trans ((HB1.o.mono (by simp only[Waq];omega)).trans (x3 _ (Wak _)))) _),fun h=>absurd h HR.o,fun _=>rfl⟩
end Go.Proofs.YtdgdajnbkfmijaaGreatDoor
