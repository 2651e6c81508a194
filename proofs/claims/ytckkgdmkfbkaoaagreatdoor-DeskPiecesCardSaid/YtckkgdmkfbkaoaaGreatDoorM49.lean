/- Texts of the proof. -/
import Derived.Test.YtckkgdmkfbkaoaaGreatDoorM48
import Derived.Lib.AtoiAllCases
import Derived.Lib.AppendIntMem
import Derived.WalkLawsBesides
namespace Go.Proofs.YtckkgdmkfbkaoaaGreatDoor
open Go.Proofs.Tryz
set_option maxRecDepth 100000
set_option maxHeartbeats 32000000
set_option linter.all false
section
open Go.RowKit Go.Sort
def thr (e:Int):List PanicEntry:=[{ v:=.iface 100 (.agg #[.int .i64 e]),recovered:=false }]
section
variable {w:World}
theorem Yc (w:World):Calls prog 49 #[.nilIface] w fun e w'=>e=.returned (.tuple #[])∧w=w':=by
 go_enter func49,ntmps49
 go_wp2
 go_end0
 exact⟨rfl,rfl⟩
theorem ZE {e:Int}(hg:Hdl w):Calls prog 49 #[.iface 31 (.int .i64 e)] w fun en w'=>en=.panicked (thr e)∧Below w.heap.size w w':=by
 have HT:=Hm (Qfh e w hg);clear hg;go_enter func49,ntmps49
 go_wp2_with (go_at_call 88;refine HT.o.mono ?_;rintro e1 w1 ⟨rfl,hb1⟩;have HB1:=Hm hb1;clear hb1)
 exact⟨rfl,rfl,HB1.o⟩
theorem Qce {g:Nat}{e p:Int}(hg:Hdl w)(h:QU w g e p):Calls prog 49 #[atV g] w fun en w'=>en=.panicked (thr e)∧Below w.heap.size w w':=by
 have HT:=Hm (Qfi g e p w hg h);clear hg h;unfold atV at *;go_enter func49,ntmps49
 go_wp2_with (go_at_call 88;refine HT.o.mono ?_;rintro e1 w1 ⟨rfl,hb1⟩;have HB1:=Hm hb1;clear hb1)
 exact⟨rfl,rfl,HB1.o⟩
theorem ZF {A:Option Addr}{m c:Nat}{n:Int}(hn:0≤n)(_hn2:n≤100)(_hm:m≤1000000)(h:(m:Int)=n)(w:World) :
  Calls prog 45 #[.slice A m c,.int .i64 n] w fun e w'=>e=.returned (.tuple #[])∧w=w':=by
 subst h;have h1:((m:Int) != (m:Int))=false:=by simp
 have h2:decide ((m:Int) < -(m:Int))=false:=by rw[decide_eq_false_iff_not];omega
 go_enter func45,ntmps45
 go_wp2
 go_end0
 exact⟨rfl,rfl⟩
theorem ZG {A:Option Addr}{m c:Nat}{n:Int}(hn:0≤n)(hn2:n≤100)(hm:m≤1000000)(h:(m:Int)≠n)(hg:Hdl w) :
  Calls prog 45 #[.slice A m c,.int .i64 n] w fun e w'=>e=.panicked (thr 3)∧Below w.heap.size w w':=by
 have h1:((m:Int) != n)=true:=by simpa using h
 have HM:=fun W=>Hm (fun hg=>ZE (w:=W) (e:=3) hg)
 have HG:=Hm hg;clear hg h;go_enter func45,ntmps45
 go_wp2_with (go_at_call 49;refine ((HM _).out HG.o).mono ?_;rintro e1 w1 ⟨rfl,hb1⟩;have HB1:=Hm hb1;clear hb1)
 exact⟨rfl,rfl,HB1.o⟩
theorem Qcf {A:Option Addr}{m c:Nat}(hm:m≤1000000)(h:1≤m)(w:World) :
  Calls prog 45 #[.slice A m c,.int .i64 (-1)] w fun e w'=>e=.returned (.tuple #[])∧w=w':=by
 have h2:¬ (m:Int)<1:=by omega
 go_enter func45,ntmps45
 go_wp2
 go_end0
 exact⟨rfl,rfl⟩
theorem Qfp {A:Option Addr}{c:Nat}(hg:Hdl w) :
  Calls prog 45 #[.slice A 0 c,.int .i64 (-1)] w fun e w'=>e=.panicked (thr 3)∧Below w.heap.size w w':=by
 have HM:=fun W=>Hm (fun hg=>ZE (w:=W) (e:=3) hg)
 have HG:=Hm hg;clear hg;go_enter func45,ntmps45
 go_wp2_with (go_at_call 49;refine ((HM _).out HG.o).mono ?_;rintro e1 w1 ⟨rfl,hb1⟩;have HB1:=Hm hb1;clear hb1)
 exact⟨rfl,rfl,HB1.o⟩
end
section
open Go.Shelf
theorem Qm0 {w w':World}(h:∃ k os,w'=grow (w.drewN k) os):Below w.heap.size w w':=by
 obtain⟨k,os,rfl⟩:=h;exact Lib.below_grow w.heap.size w (Wak _) k os
theorem Jl {n:Int}(h0:-9223372036854775808≤n)(h1:n≤9223372036854775807){w:World}(hg:Glo w) :
  Calls prog 54 #[.int .i64 n] w fun e w'=>e=.returned (.string ⟨(Lib.itoa n).toArray⟩)∧Below w.heap.size w w' :=
 (Qnk n h0 h1 w hg.tab).mono fun _ _ ⟨h1,h2⟩=>⟨h1,Qm0 h2⟩
theorem Qm1 {s:Bs}{v:Int}(hs:s.length≤1000000)(h:Lib.atoiAll s=.ok v)(w:World) :
  Calls prog 83 #[.string ⟨s.toArray⟩] w fun e w'=>e=.returned (.tuple #[.int .i64 v,.nilIface])∧Below w.heap.size w w' :=
 (Qnm ⟨s.toArray⟩ (by simp[ByteArray.size];omega) v (by simpa using h) w).mono fun e w' ⟨h1,h2⟩=>⟨h1,by
  rcases h2 with rfl | ⟨t,rfl⟩
  ·exact Wac _ _
  ·exact Xo w _ t⟩
theorem Qm2 {s:Bs}(hs:s.length≤1000000)(h:∀ v,Lib.atoiAll s≠.ok v){w:World}(hg:Glo w) :
  Calls prog 83 #[.string ⟨s.toArray⟩] w fun e w'=>∃ N k,e=.returned (.tuple #[.int .i64 k,.iface 265 (.pointer (some ⟨N,0,none⟩))])∧Below w.heap.size w w':=by
 have hl:(ByteArray.mk s.toArray).size≤281474976710656:=by simp[ByteArray.size];omega
 have hd:(ByteArray.mk s.toArray).data.toList=s:=by simp
 obtain⟨te,pe,h1⟩:=hg.syn;obtain⟨tr,pr,h2⟩:=hg.rng
 cases hx:Lib.atoiAll s with
 | ok v=>exact absurd hx (h v)
 | _ =>
  rw[← hd] at hx
  first
   | exact (Any.strconv_Atoi_syntax_var Qch _ hl hx te pe w h1).mono fun e w' ⟨N,h1,_,_,h2⟩=>⟨N,_,h1,h2⟩
   | exact (Any.strconv_Atoi_range_var Qch _ hl hx tr pr w h2).mono fun e w' ⟨N,h1,_,_,h2⟩=>⟨N,_,h1,h2⟩
def Qm3 (s:Bs)(w:World)(e:Ending)(w':World):Prop:=Below w.heap.size w w'∧(∀ n,Qx s=some n→e=.returned (.int .i64 n))∧(Qx s=none→e=.panicked (thr 3))
theorem ZU {s:Bs}(hs:s.length≤1000000){w:World}(hg:Glo w):Calls prog 46 #[.string ⟨s.toArray⟩] w (Qm3 s w):=by
 have HM:=fun W=>Hm (fun hg=>ZE (w:=W) (e:=3) hg)
 have HG:=Hm hg
 by_cases hok:∃ v,Lib.atoiAll s=.ok v
 ·obtain⟨v,hv⟩:=hok;have HA:=Hm (Qm1 hs hv w);have HI:=fun W=>Hm (fun hg=>Jl (n:=v) (by have:=Lib.atoiAll_bounds hv;omega) (by have:=Lib.atoiAll_bounds hv;omega) (w:=W) hg)
  by_cases he:Lib.itoa v=s
  ·have HE:Hd (Qx s=some v):=⟨by unfold Qx;rw[hv];exact if_pos he⟩;have hne:(Lib.itoa v == s)=true:=by simpa using he
   clear hs hg hv he;go_enter func46,ntmps46
   go_wp2_with (first
    | (go_at_call 83;refine HA.o.mono ?_;rintro e1 w1 ⟨rfl,hb1⟩;have HB1:=Hm hb1;clear hb1)
    | (go_at_call 54;refine ((HI _).out (HG.o.below HB1.o)).mono ?_;rintro e2 w2 ⟨rfl,hb2⟩;have HB2:=Hm (Qa HB1.o hb2);clear hb2))
   go_ret
   exact⟨HB2.o,fun n hn=>by rw[HE.o] at hn;cases hn;rfl,fun hn=>by rw[HE.o] at hn;cases hn⟩
  ·have HE:Hd (Qx s=none):=⟨by unfold Qx;rw[hv];exact if_neg he⟩;have hne:(Lib.itoa v == s)=false:=by simpa using he
   clear hs hg hv he;go_enter func46,ntmps46
   go_wp2_with (first
    | (go_at_call 83;refine HA.o.mono ?_;rintro e1 w1 ⟨rfl,hb1⟩;have HB1:=Hm hb1;clear hb1)
    | (go_at_call 54;refine ((HI _).out (HG.o.below HB1.o)).mono ?_;rintro e2 w2 ⟨rfl,hb2⟩;have HB2:=Hm (Qa HB1.o hb2);clear hb2)
    | (go_at_call 49;refine ((HM _).out (HG.o.below HB2.o).hdl).mono ?_;rintro e3 w3 ⟨rfl,hb3⟩;have HB3:=Hm (Qa HB2.o hb3);clear hb3))
   exact⟨rfl,HB3.o,fun n hn=>(by rw[HE.o] at hn;cases hn),fun _=>rfl⟩
 ·have HA:=Hm (Qm2 hs (fun v hv=>hok ⟨v,hv⟩) hg)
  have HE:Hd (Qx s=none):=⟨by
   unfold Qx
   split
   ·rename_i v hv;exact absurd ⟨v,hv⟩ hok
   ·rfl⟩
  clear hs hg hok;go_enter func46,ntmps46
  go_wp2_with (first
   | (go_at_call 83;refine HA.o.mono ?_;rintro e1 w1 ⟨N,k,rfl,hb1⟩;have HB1:=Hm hb1;clear hb1)
   | (go_at_call 49;refine ((HM _).out (HG.o.below HB1.o).hdl).mono ?_;rintro e3 w3 ⟨rfl,hb3⟩;have HB3:=Hm (Qa HB1.o hb3);clear hb3))
  exact⟨rfl,HB3.o,fun n hn=>(by rw[HE.o] at hn;cases hn),fun _=>rfl⟩
end
end
section
open Go.RowKit Go.Shelf Go.Sort
attribute [local go_sem] Oper.semAt_some
def lnV (s:Bs)(k:Nat):Array Value:=#[.string ⟨((Ql s)[k]?.getD []).toArray⟩]
structure CutI (w:World)(p q v:Nat)(s:Bs):Prop where
 bs:Blk w p 9 #[.string ⟨s.toArray⟩]
 bq:Blk w q 9 #[.string ⟨#[10]⟩]
 bv:Blk w v 3 #[.int .i64 0]
 n1:p≠q
 n2:p≠v
theorem CutI.below {w w':World}{p q v:Nat}{s:Bs}(h:CutI w p q v s)(hb:Below w.heap.size w w'):CutI w' p q v s:=⟨h.bs.below hb h.bs.lt,h.bq.below hb h.bq.lt,h.bv.below hb h.bv.lt,h.n1,h.n2⟩
theorem CutI.kept {w w':World}{p q v:Nat}{s:Bs}(h:CutI w p q v s)(hk:∀ b,(b=p∨b=q∨b=v)→w'.heap[b]?=w.heap[b]?):CutI w' p q v s :=
 ⟨(hk p (.inl rfl)).trans h.bs,(hk q (.inr (.inl rfl))).trans h.bq,(hk v (.inr (.inr rfl))).trans h.bv,h.n1,h.n2⟩
theorem CutI.put {w:World}{p q v:Nat}{s t:Bs}(h:CutI w p q v s):CutI (w.setCell ⟨p,0,none⟩ (.string ⟨t.toArray⟩)) p q v t :=
 ⟨h.bs.put1,(Below.heap_setCell _ _ _ _ (Ne.symm h.n1)).trans h.bq,(Below.heap_setCell _ _ _ _ (Ne.symm h.n2)).trans h.bv,h.n1,h.n2⟩
def Qcq (w:World)(p:Nat):Nat:=match w.cell? ⟨p,0,none⟩ with | some (.string b)=>b.size | _=>0
theorem CutI.rest {w:World}{p q v:Nat}{s:Bs}(h:CutI w p q v s):Qcq w p=s.length:=by
 unfold Qcq;rw[(h.bs.cell 0).trans rfl]
 rfl
theorem Qgg {s:Bs}{k:Nat}(hk:k≤s.length):(ByteArray.mk s.toArray).extract 0 k=⟨(s.take k).toArray⟩:=by
 simp[ByteArray.extract,ByteArray.copySlice,hk]
theorem Qoz {s:Bs}(k:Nat):(ByteArray.mk s.toArray).extract k s.length=⟨(s.drop k).toArray⟩:=by
 simp[ByteArray.extract,ByteArray.copySlice]
 exact List.take_of_length_le (by simp)
theorem Qo0 (n:Nat){s:Bs}(hs:s.length≤1000000)(w:World){p q v:Nat}(h:CutI w p q v s)(hn:3≤n) :
  Qik prog n 89 #[.pointer (some ⟨q,0,none⟩),.pointer (some ⟨p,0,none⟩),.pointer (some ⟨v,0,none⟩)] (lnV s) (Ql s).length p (fun j=>j=p∨j=q∨j=v) w:=by
 intro l J W hb hJ hY h0;have H0:=Hm (h.below hb);have HJ:=Hm hJ;have HY:=Hm hY;have hN:0<(Ql s).length:=Wax.2 (Jw s);clear hJ hY h hb;have c1:W.cell? ⟨q,0,none⟩=some (.string ⟨#[10]⟩):=(H0.o.bq.cell 0).trans rfl;have l0:=H0.o.bs.lt;have l1:=H0.o.bq.lt;have l2:=H0.o.bv.lt;refine callsIn_of_wp func89 rfl trivial ?_ rfl
 simp only[ntmps89,List.size_toArray,Wan,List.length_nil,Nat.reduceAdd,Nat.reduceSub,Array.replicate_succ,Array.replicate_zero,List.push_toArray,List.append_toArray,Wbn,Wap]
 gi_wp2_with fail
 gi_loopw [7,8] (fun _ _ wr=>∃ (k:Nat) (t:Bs),k<(Ql s).length∧(Ql s).drop k=Ql t∧t.length≤s.length∧CutI wr p q v t∧J k wr) (fun _ _ W=>Qcq W p)
 case atStart=>exact⟨0,s,hN,rfl,Wak _,H0.o,h0⟩
 case round =>
  obtain⟨k,t,hk,hd,hl,hi,hj⟩:=hrel;have hrs:=hi.rest;have d0:wr.cell? ⟨p,0,none⟩=some (.string ⟨t.toArray⟩):=(hi.bs.cell 0).trans rfl;have d1:wr.cell? ⟨q,0,none⟩=some (.string ⟨#[10]⟩):=(hi.bq.cell 0).trans rfl;have d2:wr.cell? ⟨v,0,none⟩=some (.int .i64 0):=(hi.bv.cell 0).trans rfl;have b0:=hi.bs.lt;have b1:=hi.bq.lt;have b2:=hi.bv.lt;have df:=hi.bs.frozen 0;have HI:=Hm hi;have HJ1:=Hm hj;rcases Qux hd with ⟨e1,e2,e3⟩ | ⟨i,e1,e2,e3,e4,e5⟩
  ·have hx:(lnV s k)=#[.string ⟨t.toArray⟩]:=by unfold lnV;rw[e2];rfl
   obtain⟨fn,tmps,assign,body,hy,hR⟩:=HY.o k _ hk hj;rw[hx] at hy;have HR:=Hm hR;have HK:=Hm e3;clear hR hi hj e3 hd
   gi_wp2_with fail
   refine⟨trivial,fun h=>absurd h (by decide),(callsIn_wide.2 (Qfy _ _ _)).mono ?_⟩;rintro e w1 ⟨rfl,rfl⟩;simp only[e1]
   gi_wp2_with fail
   refine⟨fun _=>by omega,HR.o.mono ?_⟩;rintro e W3 ⟨rfl,hJ3,hk3⟩
   gi_wp2_with fail
   go_end0
   exact⟨⟨_,rfl⟩,by rw[HK.o];exact hJ3⟩
  ·have hx:(lnV s k)=#[.string ((ByteArray.mk t.toArray).extract 0 i)]:=by unfold lnV;rw[e3,Qgg (by omega)];rfl
   obtain⟨fn,tmps,assign,body,hy,hR⟩:=HY.o k _ hk hj;rw[hx] at hy;have HR:=Hm hR;have HK:=Hm (Wao e4 e5);have hil:i≤1000000:=by omega
   clear hR hi hj e4 e5 hd
   gi_wp2_with fail
   refine⟨trivial,fun h=>absurd h (by decide),(callsIn_wide.2 (Qfy _ _ _)).mono ?_⟩;rintro e w1 ⟨rfl,rfl⟩;simp only[e1]
   gi_wp2_with fail
   refine⟨fun _=>by omega,HR.o.mono ?_⟩;rintro e W3 ⟨rfl,hJ3,hz3,hk3⟩;have hi3:=HI.o.kept hk3;have d0:W3.cell? ⟨p,0,none⟩=some (.string ⟨t.toArray⟩):=(hi3.bs.cell 0).trans rfl;have d1:W3.cell? ⟨q,0,none⟩=some (.string ⟨#[10]⟩):=(hi3.bq.cell 0).trans rfl;have b0:=hi3.bs.lt;have b1:=hi3.bq.lt;have df:=hi3.bs.frozen 0;have HI3:=Hm (Wao hi3 hJ3);clear hi3 hJ3 hz3 hk3
   gi_wp2_with fail
   rw[Qoz];have hp:=CutI.put (t:=t.drop (i+1)) HI3.o.1
   exact⟨⟨k+1,t.drop (i+1),HK.o.2,HK.o.1,by rw[War];omega,hp,HJ.o _ _ _ HI3.o.2 ((Only.refl (fun j=>j=p) W3).setCell (p:=⟨p,0,none⟩) (.inl rfl) _)⟩,by rw[hp.rest,hrs,War];omega⟩
end
end Go.Proofs.YtckkgdmkfbkaoaaGreatDoor
