/- Texts of the proof. -/
import Derived.Test.YtckkgdmkfbkaoaaGreatDoorM49
import Derived.Test.YtckkgdmkfbkaoaaGreatDoorM50
namespace Go.Proofs.YtckkgdmkfbkaoaaGreatDoor
open Go.Proofs.Tryz
set_option maxRecDepth 100000
set_option maxHeartbeats 32000000
set_option linter.all false
section
open Go.RowKit Go.Sort
def svs (l:List Bs):List Value:=l.map fun s=>.string ⟨s.toArray⟩
theorem Qv8 (l:List Bs)(s:Bs):svs (l++[s])=svs l++[.string ⟨s.toArray⟩]:=by simp[svs]
theorem Qv9 (l:List Bs):(svs l).length=l.length:=by simp[svs]
theorem Qwa {w:World}{v:Value}{n:Nat}{l:List Bs}(hn:0<n)(hl:l.length=n)(hs:Sl w 1 v n (svs l))(hlen:(Lib.join l [32]).length≤1000000)(hn2:n≤1000000) :
  Calls prog 77 #[v,.string ⟨#[32]⟩] w (JQ (Lib.join l [32]) w):=by
 obtain⟨A,c,rfl,h2,h3,h4,_,h5⟩:=hs;obtain⟨ad,rfl,hb,hc⟩:=h5 hn;have hx:(l.map fun s=>ByteArray.mk s.toArray).map (·.data.toList)=l:=by rw[List.map_map];simp[Function.comp_def]
 have hxl:(l.map fun s=>ByteArray.mk s.toArray).length=n:=by rw[Wbi,hl]
 obtain⟨b,o,p⟩:=ad
 have hp:p=none:=by
  cases p with
  | none=>rfl
  | some x =>
   obtain⟨s0,hs0⟩:∃ s0,(svs l)[0]?=some s0:=⟨_,Waj (by rw[Qv9];omega)⟩;have hz:=hc 0 s0 hs0
   have:(⟨b,o,some x⟩:Addr).add 0=⟨b,o,some x⟩:=by unfold Addr.add;rfl
   rw[this] at hz;unfold World.cell? at hz
   split at hz<;>simp at hz
 subst hp
 have:=Qne b o c (l.map fun s=>ByteArray.mk s.toArray) ⟨#[32]⟩ w (fun j x hj=>?_) hb (by rw[hxl];omega) (by rw[hxl];exact h3) (by rw[hx];exact Wbf hlen (by omega))
 ·rw[hxl,hx] at this;exact this
 ·rw[Wav] at hj
  have hu:(svs l)[j]?=some (.string x):=by
   unfold svs;rw[Wav]
   cases hq:l[j]? with
   | none=>rw[hq] at hj;cases hj
   | some s=>rw[hq] at hj;cases hj;rfl
  have:=hc j _ hu
  rw[show (⟨b,o,none⟩:Addr).add j=⟨b,o+j,none⟩ from by unfold Addr.add;split<;>simp_all] at this;exact this
theorem Qbe {w:World}{v:Value}{n:Nat}{l:List Int}(hn:0<n)(hn2:n≤10)(hb:∀ x∈l,-9223372036854775808≤x∧x≤9223372036854775807)(hs:Sl w 1 v n (l.map fun x=>.int .i64 x))(hg:Glo w) :
  Calls prog 142 #[v] w (JQ (Zy l) w):=by
 have hln:l.length=n:=by have:=hs.len;rw[Wbi] at this;omega
 have HS:=Hm hs;have HG:=Hm hg;have HBD:=Hm hb;have HLN:=Hm hln;have HJL:Hd ((Lib.join (l.map Lib.itoa) [32]).length≤1000000):=⟨by have:=X3 hb;unfold Zy at this;rw[hln] at this;omega⟩;obtain⟨A,c,rfl,-⟩:=hs;clear hg hb hln;go_enter func142,ntmps142
 go_wp2
 go_loopw [3,5,8] (fun v _ i wr=>∃ k:Nat,k≤n∧i=.int .i64 k∧Below w.heap.size w wr∧wr.ownsRow w.heap.size 9 1 v k (svs ((l.take k).map Lib.itoa))) (fun _ _ i _=>n-(intOf i).toNat)
 case atStart=>exact⟨0,by omega,rfl,Wac _ _,by simpa [svs] using World.ownsRow_nil _ _ _ _⟩
 case round =>
  obtain⟨k,hk,rfl,hB,hO⟩:=hrel;have HB:=Hm hB;have HO:=Hm hO;obtain⟨Av,cv,rfl⟩:=Qm hO;have hz:=hB.size
  by_cases hlt:k<n
  ·obtain⟨x,hx⟩:∃ x,l[k]?=some x:=⟨_,Waj (by rw[HLN.o];exact hlt)⟩;obtain⟨b,o,cc,hv,hbb,c0⟩:=(HS.o.below hB).one_at hlt (u:=.int .i64 x) (by rw[Wav,hx];rfl)
   cases hv
   have hxm:=HBD.o x (List.mem_of_getElem? hx);have HI:=fun W=>Hm (fun hg=>Jl (n:=x) hxm.1 hxm.2 (w:=W) hg)
   have HX:Hd ((l.take k).map Lib.itoa++[Lib.itoa x]=(l.take (k+1)).map Lib.itoa):=⟨by
    have hkl:=(Wai.1 hx).1;rw[Wag hkl,(Wai.1 hx).2];simp⟩
   clear hB hO hx hxm
   go_wp2_with (first
    | (go_at_call 54;refine ((HI _).out (HG.o.below HB.o)).mono ?_;rintro e w2 ⟨rfl,hb2⟩;have HB2:=Hm hb2;have ho2:=Q9 HO.o (Only.of_below (S:=fun _=>False) hb2) (fun _ _ e=>e);have HO2:=Hm ho2;clear hb2 ho2)
    | (at_builtin;refine QE XY #[.string ⟨(Lib.itoa x).toArray⟩] HO2.o rfl rfl rfl rfl rfl rfl (YI rfl) (by unfold maxLen;omega) (by omega) (by have:=HB2.o.size;omega) ?_;intro v3 w3 hown3 hbel3 _ _;have HO3:=Hm hown3;have HB3:=Hm hbel3;obtain⟨A3,k3,rfl⟩:=Qm hown3;clear hown3 hbel3))
   go_roundw
   case rel =>
    refine⟨k+1,by omega,by go_num,(HB.o.trans (HB2.o.mono hz)).trans HB3.o,?_⟩;rw[← HX.o,Qv8];exact HO3.o
   case measure=>simp[intOf];omega
  ·obtain rfl:k=n:=by omega
   have hsl:=Sl.of_own hO;rw[← HLN.o,Wbe,HLN.o] at hsl;have HJ:=Hm (Qwa hn (by rw[Wbi,HLN.o]) hsl HJL.o (by omega));clear hB hO hsl;go_wp2_with (go_at_call 77;refine HJ.o.mono ?_;rintro e w2 ⟨rfl,hb2⟩;have HB2:=Hm hb2;clear hb2)
   go_ret
   exact⟨rfl,Qa HB.o HB2.o⟩
end
section
open Go.RowKit Go.Sort
structure DkI (X:Nat→Prop)(w:World)(D:Nat)(r:RP)(R:RM)(n:Nat):Prop where
 dk:DkR X w D r R
 ok:RMs n R
 nn:n≤4000
theorem DkI.below {X:Nat→Prop}{w w':World}{D:Nat}{r:RP}{R:RM}{n:Nat}(h:DkI X w D r R n)(hb:Below w.heap.size w w'):DkI X w' D r R n:=⟨h.dk.below hb,h.ok,h.nn⟩
def QS (X:Nat→Prop)(D:Nat)(r:RP)(c:Cm)(w:World)(e:Ending)(w':World):Prop :=
 (c.1=0→e=.returned (.string ⟨c.2.1.toArray⟩))∧(c.1≠0→e=.panicked (thr c.1))∧DkS X D r c.2.2 w w'
section
variable {X:Nat→Prop}{w w':World}{D:Nat}{r:RP}{R:RM}{n:Nat}
theorem QS.no (h:DkI X w D r R n){e:Int}(he:e≠0)(hb:Below w.heap.size w w'):QS X D r (no e R) w (.panicked (thr e)) w':=⟨fun h=>absurd h he,fun _=>rfl,DkS.of_below h.dk hb⟩
theorem QS.yes (h:DkI X w D r R n){t:Bs}(hb:Below w.heap.size w w'):QS X D r (0,t,R) w (.returned (.string ⟨t.toArray⟩)) w':=⟨fun _=>rfl,fun e=>absurd rfl e,DkS.of_below h.dk hb⟩
def Qtl (r:RP)(R:RM)(s:Bs)(w:World)(e:Ending)(w':World):Prop :=
 Below w.heap.size w w'∧(Qx s=none→e=.panicked (thr 3))∧(∀ k,Qx s=some k→¬ (0≤k∧k<R.cl.length)→e=.panicked (thr 2)) ∧
  ∀ k:Nat,Qx s=some (k:Int)→∀ c,r.cs[k]?=some c→e=.returned (.pointer (some ⟨c.a,0,none⟩))
abbrev BXD (D a:Nat)(w':World):Prop:=w'.cell? ⟨D,0,none⟩=some (.pointer (some ⟨a,0,none⟩))∧D<w'.heap.size
theorem Qa4 {s:Bs}(h:DkI X w D r R n)(hs:s.length≤1000000):Calls prog 144 #[.pointer (some ⟨D,0,none⟩),.string ⟨s.toArray⟩] w (Qtl r R s w):=by
 have H:=Hm h;have HN:=fun W (hg:Glo W)=>Hm (ZU hs hg)
 have hp:=h.dk.ptr;have lt:=h.dk.bx.lt;have HM:=fun W=>Hm (fun hg=>ZE (w:=W) (e:=2) hg)
 have HM0:=fun W=>Hm (Yc W)
 clear h hs
 cases hk:Qx s with
 | none =>
  have HK:=Hm hk;clear hk;go_enter func144,ntmps144
  go_wp2_with fail;refine wp_region_held_drew (S:=fun w'=>BXD D r.a w'∧Below w.heap.size w w') (by kernel_rfl) ⟨⟨hp,lt⟩,Qe (Wac _ _)⟩ (fun hHeld=>?_);refine wpAnyH_take (i:=0) (v:=.pointer (some ⟨D,0,none⟩)) rfl (by kernel_rfl) (by kernel_rfl) (by kernel_rfl) (fun _ _ _ h=>h) (Or.inl ⟨by rfl,?_⟩) hHeld ?_
  ·intro w2 hSw;(try dsimp only at hSw);go_simp
  simp only[Act.put,List.setIfInBounds_toArray,List.set_cons_zero,List.set_cons_succ];refine wpAnyH_take (i:=1) (v:=.pointer (some ⟨D,0,none⟩)) rfl (by kernel_rfl) (by kernel_rfl) (by kernel_rfl) (fun _ _ _ h=>h) (Or.inl ⟨by rfl,?_⟩) hHeld ?_
  ·intro w2 hSw;(try dsimp only at hSw);go_simp
  simp only[Act.put,List.setIfInBounds_toArray,List.set_cons_zero,List.set_cons_succ];refine wpAnyH_take (i:=2) (v:=.pointer (some ⟨D,0,none⟩)) rfl (by kernel_rfl) (by kernel_rfl) (by kernel_rfl) (fun _ _ _ h=>h) (Or.inl ⟨by rfl,?_⟩) hHeld ?_
  ·intro w2 hSw;(try dsimp only at hSw);go_simp
  simp only[Act.put,List.setIfInBounds_toArray,List.set_cons_zero,List.set_cons_succ];refine wpAnyH_take (i:=3) (v:=.pointer (some ⟨r.a,0,none⟩)) rfl (by kernel_rfl) (by kernel_rfl) (by kernel_rfl) (fun _ _ _ h=>h) (Or.inl ⟨by rfl,?_⟩) hHeld ?_
  ·intro w2 hSw;(try dsimp only at hSw);go_simp
  simp only[Act.put,List.setIfInBounds_toArray,List.set_cons_zero,List.set_cons_succ];refine wpAnyH_take (i:=4) (v:=.string ⟨s.toArray⟩) rfl (by kernel_rfl) (by kernel_rfl) (by kernel_rfl) (fun _ _ _ h=>h) (Or.inl ⟨by rfl,?_⟩) hHeld ?_
  ·intro w2 hSw;(try dsimp only at hSw);go_simp
  simp only[Act.put,List.setIfInBounds_toArray,List.set_cons_zero,List.set_cons_succ];refine wpAnyH_ready (rs:=[5]) (by kernel_rfl) (by simp) (AllReadyH.cons rfl (fun K hK=>?_) AllReadyH.nil);go_simp
  refine (HN _ (H.o.dk.gl.below (Qe (Wac _ _)))).out.mono ?_;rintro e w2 ⟨hb2,-,h2⟩;obtain rfl:=h2 HK.o
  exact⟨rfl,Qa (Qe (Wac _ _)) hb2,fun _=>rfl,fun k hk=>(by rw[HK.o] at hk;cases hk),fun k hk=>(by rw[HK.o] at hk;cases hk)⟩
 | some k =>
  have HK:=Hm hk;clear hk
  by_cases hin:0≤k∧k<R.cl.length
  ·obtain⟨i,rfl⟩:=Was hin.1;have HIN:=Hm hin.2;obtain⟨c,hc⟩:∃ c,r.cs[i]?=some c:=⟨_,Waj (by rw[H.o.dk.rm.len];omega)⟩;have HC:=Hm hc;have HCL:=fun W (hb:Below w.heap.size w W)=>Hm (Qjh (H.o.dk.rm.below hb) hc)
   clear hin hc;go_enter func144,ntmps144
   go_wp2_with fail
   go_region_with (first
    | (go_at_call 46;refine (HN _ (H.o.dk.gl.below (Qe (Wac _ _)))).out.mono ?_;rintro e w2 ⟨hb2,h2,-⟩;obtain rfl:=h2 _ HK.o;have HB2:=Hm (Qa (Qe (Wac _ _)) hb2);have hp2:=(HB2.o.cell (p:=⟨D,0,none⟩) lt).trans hp;have lt2:=Wal lt HB2.o.size;clear hb2 h2)
    | (go_at_call 202;refine (HCL _ HB2.o).out.mono ?_;rintro e w3 ⟨rfl,rfl⟩))
   all_goals
    go_wp2_with (go_at_call 49;refine (HM0 _).out.mono ?_;rintro e w4 ⟨rfl,rfl⟩)
    go_ret
    exact⟨HB2.o,fun hk=>(by rw[HK.o] at hk;cases hk),fun k hk hh=>(by rw[HK.o] at hk;cases hk;exact absurd ⟨by omega,by have:=HIN.o;omega⟩ hh),fun k hk c' hc'=>(by rw[HK.o] at hk;cases hk;rw[HC.o] at hc';cases hc';rfl)⟩
  ·have HIN:=Hm hin;have HCL:=fun W (hb:Below w.heap.size w W)=>Hm (Qji (H.o.dk.rm.below hb) (k:=k) (by rw[H.o.dk.rm.len];exact hin))
   clear hin;go_enter func144,ntmps144
   go_wp2_with fail;unfold errno at HCL
   go_region_with (first
    | (go_at_call 46;refine (HN _ (H.o.dk.gl.below (Qe (Wac _ _)))).out.mono ?_;rintro e w2 ⟨hb2,h2,-⟩;obtain rfl:=h2 _ HK.o;have HB2:=Hm (Qa (Qe (Wac _ _)) hb2);have hp2:=(HB2.o.cell (p:=⟨D,0,none⟩) lt).trans hp;have lt2:=Wal lt HB2.o.size;clear hb2 h2)
    | (go_at_call 202;refine (HCL _ HB2.o).out.mono ?_;rintro e w3 ⟨rfl,rfl⟩))
   all_goals
    go_wp2_with (go_at_call 49;refine ((HM _).out (H.o.dk.gl.below HB2.o).hdl).mono ?_;rintro e w4 ⟨rfl,hb4⟩;have HB4:=Hm (Qa HB2.o hb4);clear hb4)
    exact⟨rfl,HB4.o,fun hk=>(by rw[HK.o] at hk;cases hk),fun k' hk hh=>rfl,fun k' hk c' hc'=>(by
     rw[HK.o] at hk
     cases hk
     exact absurd ⟨by omega,by have:=(Wai.1 hc').1;rw[H.o.dk.rm.len] at this;omega⟩ HIN.o)⟩
end
end
section
open Go.RowKit Go.Sort
structure WrdI (w:World)(r:RP)(v:Value)(l:List Bs):Prop where
 sl:Sl w 1 v l.length (svs l)
 ln:l.length≤1000000
 sz:∀ s∈l,s.length≤1000000
 ap:∀ ad n c,v=.slice (some ad) n c→¬ r.F ad.block
theorem Qm7 {l:List Bs}{k:Nat}{s:Bs}(h:l[k]?=some s):(svs l)[k]?=some (.string ⟨s.toArray⟩):=by
 unfold svs;rw[Wav,h]
 rfl
theorem WrdI.at_ {w:World}{r:RP}{v:Value}{l:List Bs}(h:WrdI w r v l){k:Nat}{s:Bs}(hs:l[k]?=some s):∃ b o c,v=.slice (some ⟨b,o,none⟩) l.length c∧b<w.heap.size∧w.cell? ⟨b,o+k,none⟩=some (.string ⟨s.toArray⟩)∧¬ r.F b:=by
 have hk:=(Wai.1 hs).1;obtain⟨b,o,c,e,hb,hc⟩:=h.sl.one_at hk (Qm7 hs)
 exact⟨b,o,c,e,hb,hc,h.ap _ _ _ e⟩
theorem WrdI.form {w:World}{r:RP}{v:Value}{l:List Bs}(h:WrdI w r v l):∃ A c,v=.slice A l.length c:=by
 obtain⟨A,c,e,-⟩:=h.sl
 exact⟨A,c,e⟩
section
variable {X:Nat→Prop}{w w':World}{D:Nat}{r:RP}{R:RM}{n:Nat}{l:List Bs}{v:Value}
theorem RmS.cellD {F:Nat→Prop}{R':RM}{w1 w2:World}(h:RmS F r R' w1 w2){b o:Nat}(hb:b<w1.heap.size)(hF:¬ r.F b):w2.cell? ⟨b,o,none⟩=w1.cell? ⟨b,o,none⟩:=by
 obtain⟨r',-,-,ho,-⟩:=h;exact World.cell?_of_block (ho.block b hb hF)
theorem Xk {f:Bs→Cm}(h:l.length≠1):Qn R f l=no 3 R:=by
 unfold Qn
 split
 ·exact absurd rfl h
 ·rfl
theorem Qm8 (h:DkI X w D r R n)(hv:WrdI w r v l):Calls prog 99 #[.pointer (some ⟨D,0,none⟩),v] w (QS X D r (Qn R (fun s=>QD R s Yt R.out) l) w):=by
 have H:=Hm h;have HV:=Hm hv;have hp:=h.dk.ptr;have lt:=h.dk.bx.lt;have HM:=fun W e=>Hm (fun hg=>ZE (w:=W) (e:=e) hg)
 have HM0:=fun W=>Hm (Yc W)
 by_cases h1:l.length=1
 ·obtain⟨s,rfl⟩:=List.length_eq_one_iff.1 h1;have HS:=Hm (hv.sz s (by simp));have HN:=fun W (hg:Glo W)=>Hm (ZU HS.o hg)
  obtain⟨b,o,c,rfl,bl,bc,bF⟩:=hv.at_ (k:=0) (s:=s) rfl;rw[Nat.add_zero] at bc;have HWD:=fun W=>Hm (ZF (A:=some ⟨b,o,none⟩) (m:=1) (c:=c) (n:=1) (by decide) (by decide) (by decide) rfl W)
  have HBF:=Hm (Wao bF (Wao h.dk.ap bl));clear h hv bF h1;have hS0:w.drew.cell? ⟨D,0,none⟩=some (.pointer (some ⟨r.a,0,none⟩))∧w.drew.cell? ⟨b,o,none⟩=some (.string ⟨s.toArray⟩):=⟨hp,bc⟩;have HS0:=Hm hS0;clear hS0;go_enter func99,ntmps99
  go_wp2_with (go_at_call 45;refine (HWD _).out.mono ?_;rintro e w1 ⟨rfl,rfl⟩)
  refine wp_region_held_drew (S:=fun w'=>w'.cell? ⟨D,0,none⟩=some (.pointer (some ⟨r.a,0,none⟩))∧w'.cell? ⟨b,o,none⟩=some (.string ⟨s.toArray⟩)) (by kernel_rfl) HS0.o (fun hHeld=>?_);refine wpAnyH_take (i:=0) (v:=.pointer (some ⟨D,0,none⟩)) rfl (by kernel_rfl) (by kernel_rfl) (by kernel_rfl) (fun _ _ _ h=>h) (Or.inl ⟨by rfl,?_⟩) hHeld ?_
  ·intro w2 hSw;(try dsimp only at hSw);go_simp
  try simp only[Act.put,List.setIfInBounds_toArray,List.set_cons_zero,List.set_cons_succ]
  refine wpAnyH_take (i:=1) (v:=.pointer (some ⟨D,0,none⟩)) rfl (by kernel_rfl) (by kernel_rfl) (by kernel_rfl) (fun _ _ _ h=>h) (Or.inl ⟨by rfl,?_⟩) hHeld ?_
  ·intro w2 hSw;(try dsimp only at hSw);go_simp
  try simp only[Act.put,List.setIfInBounds_toArray,List.set_cons_zero,List.set_cons_succ]
  refine wpAnyH_take (i:=2) (v:=.pointer (some ⟨D,0,none⟩)) rfl (by kernel_rfl) (by kernel_rfl) (by kernel_rfl) (fun _ _ _ h=>h) (Or.inl ⟨by rfl,?_⟩) hHeld ?_
  ·intro w2 hSw;(try dsimp only at hSw);go_simp
  try simp only[Act.put,List.setIfInBounds_toArray,List.set_cons_zero,List.set_cons_succ]
  refine wpAnyH_take (i:=3) (v:=.pointer (some ⟨r.a,0,none⟩)) rfl (by kernel_rfl) (by kernel_rfl) (by kernel_rfl) (fun _ _ _ h=>h) (Or.inl ⟨by rfl,?_⟩) hHeld ?_
  ·intro w2 hSw;(try dsimp only at hSw);go_simp
  try simp only[Act.put,List.setIfInBounds_toArray,List.set_cons_zero,List.set_cons_succ]
  refine wpAnyH_take (i:=4) (v:=.slice (some ⟨b,o,none⟩) 1 c) rfl (by kernel_rfl) (by kernel_rfl) (by kernel_rfl) (fun _ _ _ h=>h) (Or.inl ⟨by rfl,?_⟩) hHeld ?_
  ·intro w2 hSw;(try dsimp only at hSw);go_simp
  try simp only[Act.put,List.setIfInBounds_toArray,List.set_cons_zero,List.set_cons_succ]
  refine wpAnyH_take (i:=5) (v:=.pointer (some ⟨b,o,none⟩)) rfl (by kernel_rfl) (by kernel_rfl) (by kernel_rfl) (fun _ _ _ h=>h) (Or.inl ⟨by rfl,?_⟩) hHeld ?_
  ·intro w2 hSw;(try dsimp only at hSw);go_simp
  try simp only[Act.put,List.setIfInBounds_toArray,List.set_cons_zero,List.set_cons_succ]
  refine wpAnyH_take (i:=6) (v:=.string ⟨s.toArray⟩) rfl (by kernel_rfl) (by kernel_rfl) (by kernel_rfl) (fun _ _ _ h=>h) (Or.inl ⟨by rfl,?_⟩) hHeld ?_
  ·intro w2 hSw;(try dsimp only at hSw);go_simp
  try simp only[Act.put,List.setIfInBounds_toArray,List.set_cons_zero,List.set_cons_succ]
  refine wpAnyH_ready (rs:=[7]) (by kernel_rfl) (by simp) (AllReadyH.cons rfl (fun K hK=>?_) AllReadyH.nil);go_simp
  refine (HN _ (H.o.dk.gl.below (Qe (Wac _ _)))).out.mono ?_;rintro e w2 ⟨hb2,hn,hf⟩
  cases hk:Qx s with
  | none =>
   obtain rfl:=hf hk;have HW:Qn R (fun s=>QD R s Yt R.out) [s]=no 3 R:=by unfold QD Qn;simp only[hk]
   exact⟨rfl,by rw[HW];exact .no H.o (by decide) (Qa (Qe (Wac _ _)) hb2)⟩
  | some k =>
   obtain rfl:=hn _ hk;have HK:=Hm hk;have HB2:=Hm (Qa (Qe (Wac _ _)) hb2);refine hK.out _ _ ⟨(HB2.o.cell (p:=⟨D,0,none⟩) lt).trans hp,(HB2.o.cell (p:=⟨b,o,none⟩) bl).trans bc⟩ (fun hS2=>?_);clear hK K hb2 hn hf hk
   try simp only[Act.put,List.setIfInBounds_toArray,List.set_cons_zero,List.set_cons_succ]
   refine wpAnyH_ready (rs:=[8]) (by kernel_rfl) (by simp) (AllReadyH.cons rfl (fun K hK=>?_) AllReadyH.nil);go_simp
   have hk:=HK.o
   by_cases hin:0≤k∧k<(R.way.length:Int)
   ·obtain⟨i,rfl⟩:=Was hin.1;have hil:i<R.way.length:=by omega
    have HIL:=Hm hil;have HW:Hd (Qn R (fun s=>QD R s Yt R.out) [s]=(0,Yt,R.out i)):=⟨by unfold QD Qn;simp only[hk];rw[if_neg (by omega)];rfl⟩;clear hk hin;refine (Qn6 (i:=i) (H.o.dk.rm.below HB2.o) HIL.o (by have:=H.o.ok.b.ok.wl;omega)).mono ?_;rintro e w3 ⟨rfl,hs3⟩;have HS3:=Hm hs3;have hb2':=HB2.o.size;refine hK.out _ _ ⟨(hs3.cellD (Wal lt hb2') HBF.o.2.1).trans hS2.1,(hs3.cellD (Wal bl hb2') HBF.o.1).trans hS2.2⟩ (fun hS3=>?_);clear hK K hs3 hS2 hp bc
    try simp only[Act.put,List.setIfInBounds_toArray,List.set_cons_zero,List.set_cons_succ]
    refine wpAnyH_ready (rs:=[9]) (by kernel_rfl) (by simp) (AllReadyH.cons rfl (fun K hK=>?_) AllReadyH.nil);go_simp
    refine (HM0 _).out.mono ?_;rintro e w4 ⟨rfl,rfl⟩;refine hK.out _ _ hS3 (fun _=>?_);clear hK K hS3
    try simp only[Act.put,List.setIfInBounds_toArray,List.set_cons_zero,List.set_cons_succ]
    refine wpAnyH_done (by kernel_rfl) ?_ _;go_wp2
    go_ret;rw[HW.o]
    exact⟨fun _=>rfl,fun e=>absurd rfl e,DkS.from_below HB2.o ((H.o.dk.below HB2.o).step HS3.o)⟩
   ·have HW:Hd (Qn R (fun s=>QD R s Yt R.out) [s]=no 2 R):=⟨by unfold QD Qn;simp only[hk];rw[if_pos (by omega)]⟩;clear hk;refine (Qke (H.o.dk.rm.below HB2.o) hin).mono ?_;rintro e w3 ⟨rfl,rfl⟩;refine hK.out _ _ hS2 (fun hS3=>?_);clear hK K hS2 hp bc
    try simp only[Act.put,List.setIfInBounds_toArray,List.set_cons_zero,List.set_cons_succ]
    refine wpAnyH_ready (rs:=[9]) (by kernel_rfl) (by simp) (AllReadyH.cons rfl (fun K hK=>?_) AllReadyH.nil);unfold errno;go_simp
    refine ((HM _ 2).out (H.o.dk.gl.below HB2.o).hdl).mono ?_;rintro e w4 ⟨rfl,hb4⟩
    exact⟨rfl,by rw[HW.o];exact .no H.o (by decide) (Qa HB2.o hb4)⟩
 ·have HW:Hd (Qn R (fun s=>QD R s Yt R.out) l=no 3 R):=⟨Xk h1⟩;obtain⟨A,c,rfl⟩:=hv.form;have HWD:=fun W (hg:Hdl W)=>Hm (ZG (A:=A) (m:=l.length) (c:=c) (n:=1) (by decide) (by decide) hv.ln (by omega) hg)
  clear h hv h1 hp;go_enter func99,ntmps99
  go_wp2_with (go_at_call 45;refine (HWD _ H.o.dk.gl.hdl).out.mono ?_;rintro e w1 ⟨rfl,hb1⟩;have HB1:=Hm hb1;clear hb1)
  exact⟨rfl,by rw[HW.o];exact .no H.o (by decide) HB1.o⟩
theorem Qm9 (h:DkI X w D r R n)(hv:WrdI w r v l):Calls prog 96 #[.pointer (some ⟨D,0,none⟩),v] w (QS X D r (Qn R (fun s=>QD R s Yr R.deliver) l) w):=by
 have H:=Hm h;have HV:=Hm hv;have hp:=h.dk.ptr;have lt:=h.dk.bx.lt;have HM:=fun W e=>Hm (fun hg=>ZE (w:=W) (e:=e) hg)
 have HM0:=fun W=>Hm (Yc W)
 by_cases h1:l.length=1
 ·obtain⟨s,rfl⟩:=List.length_eq_one_iff.1 h1;have HS:=Hm (hv.sz s (by simp));have HN:=fun W (hg:Glo W)=>Hm (ZU HS.o hg)
  obtain⟨b,o,c,rfl,bl,bc,bF⟩:=hv.at_ (k:=0) (s:=s) rfl;rw[Nat.add_zero] at bc;have HWD:=fun W=>Hm (ZF (A:=some ⟨b,o,none⟩) (m:=1) (c:=c) (n:=1) (by decide) (by decide) (by decide) rfl W)
  have HBF:=Hm (Wao bF (Wao h.dk.ap bl));clear h hv bF h1;have hS0:w.drew.cell? ⟨D,0,none⟩=some (.pointer (some ⟨r.a,0,none⟩))∧w.drew.cell? ⟨b,o,none⟩=some (.string ⟨s.toArray⟩):=⟨hp,bc⟩;have HS0:=Hm hS0;clear hS0;go_enter func96,ntmps96
  go_wp2_with (go_at_call 45;refine (HWD _).out.mono ?_;rintro e w1 ⟨rfl,rfl⟩)
  refine wp_region_held_drew (S:=fun w'=>w'.cell? ⟨D,0,none⟩=some (.pointer (some ⟨r.a,0,none⟩))∧w'.cell? ⟨b,o,none⟩=some (.string ⟨s.toArray⟩)) (by kernel_rfl) HS0.o (fun hHeld=>?_);refine wpAnyH_take (i:=0) (v:=.pointer (some ⟨D,0,none⟩)) rfl (by kernel_rfl) (by kernel_rfl) (by kernel_rfl) (fun _ _ _ h=>h) (Or.inl ⟨by rfl,?_⟩) hHeld ?_
  ·intro w2 hSw;(try dsimp only at hSw);go_simp
  try simp only[Act.put,List.setIfInBounds_toArray,List.set_cons_zero,List.set_cons_succ]
  refine wpAnyH_take (i:=1) (v:=.pointer (some ⟨D,0,none⟩)) rfl (by kernel_rfl) (by kernel_rfl) (by kernel_rfl) (fun _ _ _ h=>h) (Or.inl ⟨by rfl,?_⟩) hHeld ?_
  ·intro w2 hSw;(try dsimp only at hSw);go_simp
  try simp only[Act.put,List.setIfInBounds_toArray,List.set_cons_zero,List.set_cons_succ]
  refine wpAnyH_take (i:=2) (v:=.pointer (some ⟨D,0,none⟩)) rfl (by kernel_rfl) (by kernel_rfl) (by kernel_rfl) (fun _ _ _ h=>h) (Or.inl ⟨by rfl,?_⟩) hHeld ?_
  ·intro w2 hSw;(try dsimp only at hSw);go_simp
  try simp only[Act.put,List.setIfInBounds_toArray,List.set_cons_zero,List.set_cons_succ]
  refine wpAnyH_take (i:=3) (v:=.pointer (some ⟨r.a,0,none⟩)) rfl (by kernel_rfl) (by kernel_rfl) (by kernel_rfl) (fun _ _ _ h=>h) (Or.inl ⟨by rfl,?_⟩) hHeld ?_
  ·intro w2 hSw;(try dsimp only at hSw);go_simp
  try simp only[Act.put,List.setIfInBounds_toArray,List.set_cons_zero,List.set_cons_succ]
  refine wpAnyH_take (i:=4) (v:=.slice (some ⟨b,o,none⟩) 1 c) rfl (by kernel_rfl) (by kernel_rfl) (by kernel_rfl) (fun _ _ _ h=>h) (Or.inl ⟨by rfl,?_⟩) hHeld ?_
  ·intro w2 hSw;(try dsimp only at hSw);go_simp
  try simp only[Act.put,List.setIfInBounds_toArray,List.set_cons_zero,List.set_cons_succ]
  refine wpAnyH_take (i:=5) (v:=.pointer (some ⟨b,o,none⟩)) rfl (by kernel_rfl) (by kernel_rfl) (by kernel_rfl) (fun _ _ _ h=>h) (Or.inl ⟨by rfl,?_⟩) hHeld ?_
  ·intro w2 hSw;(try dsimp only at hSw);go_simp
  try simp only[Act.put,List.setIfInBounds_toArray,List.set_cons_zero,List.set_cons_succ]
  refine wpAnyH_take (i:=6) (v:=.string ⟨s.toArray⟩) rfl (by kernel_rfl) (by kernel_rfl) (by kernel_rfl) (fun _ _ _ h=>h) (Or.inl ⟨by rfl,?_⟩) hHeld ?_
  ·intro w2 hSw;(try dsimp only at hSw);go_simp
  try simp only[Act.put,List.setIfInBounds_toArray,List.set_cons_zero,List.set_cons_succ]
  refine wpAnyH_ready (rs:=[7]) (by kernel_rfl) (by simp) (AllReadyH.cons rfl (fun K hK=>?_) AllReadyH.nil);go_simp
  refine (HN _ (H.o.dk.gl.below (Qe (Wac _ _)))).out.mono ?_;rintro e w2 ⟨hb2,hn,hf⟩
  cases hk:Qx s with
  | none =>
   obtain rfl:=hf hk;have HW:Qn R (fun s=>QD R s Yr R.deliver) [s]=no 3 R:=by unfold QD Qn;simp only[hk]
   exact⟨rfl,by rw[HW];exact .no H.o (by decide) (Qa (Qe (Wac _ _)) hb2)⟩
  | some k =>
   obtain rfl:=hn _ hk;have HK:=Hm hk;have HB2:=Hm (Qa (Qe (Wac _ _)) hb2);refine hK.out _ _ ⟨(HB2.o.cell (p:=⟨D,0,none⟩) lt).trans hp,(HB2.o.cell (p:=⟨b,o,none⟩) bl).trans bc⟩ (fun hS2=>?_);clear hK K hb2 hn hf hk
   try simp only[Act.put,List.setIfInBounds_toArray,List.set_cons_zero,List.set_cons_succ]
   refine wpAnyH_ready (rs:=[8]) (by kernel_rfl) (by simp) (AllReadyH.cons rfl (fun K hK=>?_) AllReadyH.nil);go_simp
   have hk:=HK.o
   by_cases hin:0≤k∧k<(R.way.length:Int)
   ·obtain⟨i,rfl⟩:=Was hin.1;have hil:i<R.way.length:=by omega
    have HIL:=Hm hil;have HW:Hd (Qn R (fun s=>QD R s Yr R.deliver) [s]=(0,Yr,R.deliver i)):=⟨by unfold QD Qn;simp only[hk];rw[if_neg (by omega)];rfl⟩;clear hk hin;refine (Qf5 (i:=i) (H.o.dk.rm.below HB2.o) H.o.ok.b (by have:=H.o.nn;omega) (by have:=H.o.nn;omega) HIL.o (by have:=H.o.ok.cl;omega)).mono ?_;rintro e w3 ⟨rfl,hs3⟩;have HS3:=Hm hs3;have hb2':=HB2.o.size;refine hK.out _ _ ⟨(hs3.cellD (Wal lt hb2') HBF.o.2.1).trans hS2.1,(hs3.cellD (Wal bl hb2') HBF.o.1).trans hS2.2⟩ (fun hS3=>?_);clear hK K hs3 hS2 hp bc
    try simp only[Act.put,List.setIfInBounds_toArray,List.set_cons_zero,List.set_cons_succ]
    refine wpAnyH_ready (rs:=[9]) (by kernel_rfl) (by simp) (AllReadyH.cons rfl (fun K hK=>?_) AllReadyH.nil);go_simp
    refine (HM0 _).out.mono ?_;rintro e w4 ⟨rfl,rfl⟩;refine hK.out _ _ hS3 (fun _=>?_);clear hK K hS3
    try simp only[Act.put,List.setIfInBounds_toArray,List.set_cons_zero,List.set_cons_succ]
    refine wpAnyH_done (by kernel_rfl) ?_ _;go_wp2
    go_ret;rw[HW.o]
    exact⟨fun _=>rfl,fun e=>absurd rfl e,DkS.from_below HB2.o ((H.o.dk.below HB2.o).step HS3.o)⟩
   ·have HW:Hd (Qn R (fun s=>QD R s Yr R.deliver) [s]=no 2 R):=⟨by unfold QD Qn;simp only[hk];rw[if_pos (by omega)]⟩;clear hk;refine (Qkd (H.o.dk.rm.below HB2.o) hin).mono ?_;rintro e w3 ⟨rfl,rfl⟩;refine hK.out _ _ hS2 (fun hS3=>?_);clear hK K hS2 hp bc
    try simp only[Act.put,List.setIfInBounds_toArray,List.set_cons_zero,List.set_cons_succ]
    refine wpAnyH_ready (rs:=[9]) (by kernel_rfl) (by simp) (AllReadyH.cons rfl (fun K hK=>?_) AllReadyH.nil);unfold errno;go_simp
    refine ((HM _ 2).out (H.o.dk.gl.below HB2.o).hdl).mono ?_;rintro e w4 ⟨rfl,hb4⟩
    exact⟨rfl,by rw[HW.o];exact .no H.o (by decide) (Qa HB2.o hb4)⟩
 ·have HW:Hd (Qn R (fun s=>QD R s Yr R.deliver) l=no 3 R):=⟨Xk h1⟩;obtain⟨A,c,rfl⟩:=hv.form;have HWD:=fun W (hg:Hdl W)=>Hm (ZG (A:=A) (m:=l.length) (c:=c) (n:=1) (by decide) (by decide) hv.ln (by omega) hg)
  clear h hv h1 hp;go_enter func96,ntmps96
  go_wp2_with (go_at_call 45;refine (HWD _ H.o.dk.gl.hdl).out.mono ?_;rintro e w1 ⟨rfl,hb1⟩;have HB1:=Hm hb1;clear hb1)
  exact⟨rfl,by rw[HW.o];exact .no H.o (by decide) HB1.o⟩
theorem Qna (h:DkI X w D r R n)(hv:WrdI w r v l):Calls prog 109 #[.pointer (some ⟨D,0,none⟩),v] w (QS X D r (Qn R (fun s=>QD R s Yu R.again) l) w):=by
 have H:=Hm h;have HV:=Hm hv;have hp:=h.dk.ptr;have lt:=h.dk.bx.lt;have HM:=fun W e=>Hm (fun hg=>ZE (w:=W) (e:=e) hg)
 have HM0:=fun W=>Hm (Yc W)
 by_cases h1:l.length=1
 ·obtain⟨s,rfl⟩:=List.length_eq_one_iff.1 h1;have HS:=Hm (hv.sz s (by simp));have HN:=fun W (hg:Glo W)=>Hm (ZU HS.o hg)
  obtain⟨b,o,c,rfl,bl,bc,bF⟩:=hv.at_ (k:=0) (s:=s) rfl;rw[Nat.add_zero] at bc;have HWD:=fun W=>Hm (ZF (A:=some ⟨b,o,none⟩) (m:=1) (c:=c) (n:=1) (by decide) (by decide) (by decide) rfl W)
  have HBF:=Hm (Wao bF (Wao h.dk.ap bl));clear h hv bF h1;have hS0:w.drew.cell? ⟨D,0,none⟩=some (.pointer (some ⟨r.a,0,none⟩))∧w.drew.cell? ⟨b,o,none⟩=some (.string ⟨s.toArray⟩):=⟨hp,bc⟩;have HS0:=Hm hS0;clear hS0;go_enter func109,ntmps109
  go_wp2_with (go_at_call 45;refine (HWD _).out.mono ?_;rintro e w1 ⟨rfl,rfl⟩)
  refine wp_region_held_drew (S:=fun w'=>w'.cell? ⟨D,0,none⟩=some (.pointer (some ⟨r.a,0,none⟩))∧w'.cell? ⟨b,o,none⟩=some (.string ⟨s.toArray⟩)) (by kernel_rfl) HS0.o (fun hHeld=>?_);refine wpAnyH_take (i:=0) (v:=.pointer (some ⟨D,0,none⟩)) rfl (by kernel_rfl) (by kernel_rfl) (by kernel_rfl) (fun _ _ _ h=>h) (Or.inl ⟨by rfl,?_⟩) hHeld ?_
  ·intro w2 hSw;(try dsimp only at hSw);go_simp
  try simp only[Act.put,List.setIfInBounds_toArray,List.set_cons_zero,List.set_cons_succ]
  refine wpAnyH_take (i:=1) (v:=.pointer (some ⟨D,0,none⟩)) rfl (by kernel_rfl) (by kernel_rfl) (by kernel_rfl) (fun _ _ _ h=>h) (Or.inl ⟨by rfl,?_⟩) hHeld ?_
  ·intro w2 hSw;(try dsimp only at hSw);go_simp
  try simp only[Act.put,List.setIfInBounds_toArray,List.set_cons_zero,List.set_cons_succ]
  refine wpAnyH_take (i:=2) (v:=.pointer (some ⟨D,0,none⟩)) rfl (by kernel_rfl) (by kernel_rfl) (by kernel_rfl) (fun _ _ _ h=>h) (Or.inl ⟨by rfl,?_⟩) hHeld ?_
  ·intro w2 hSw;(try dsimp only at hSw);go_simp
  try simp only[Act.put,List.setIfInBounds_toArray,List.set_cons_zero,List.set_cons_succ]
  refine wpAnyH_take (i:=3) (v:=.pointer (some ⟨r.a,0,none⟩)) rfl (by kernel_rfl) (by kernel_rfl) (by kernel_rfl) (fun _ _ _ h=>h) (Or.inl ⟨by rfl,?_⟩) hHeld ?_
  ·intro w2 hSw;(try dsimp only at hSw);go_simp
  try simp only[Act.put,List.setIfInBounds_toArray,List.set_cons_zero,List.set_cons_succ]
  refine wpAnyH_take (i:=4) (v:=.slice (some ⟨b,o,none⟩) 1 c) rfl (by kernel_rfl) (by kernel_rfl) (by kernel_rfl) (fun _ _ _ h=>h) (Or.inl ⟨by rfl,?_⟩) hHeld ?_
  ·intro w2 hSw;(try dsimp only at hSw);go_simp
  try simp only[Act.put,List.setIfInBounds_toArray,List.set_cons_zero,List.set_cons_succ]
  refine wpAnyH_take (i:=5) (v:=.pointer (some ⟨b,o,none⟩)) rfl (by kernel_rfl) (by kernel_rfl) (by kernel_rfl) (fun _ _ _ h=>h) (Or.inl ⟨by rfl,?_⟩) hHeld ?_
  ·intro w2 hSw;(try dsimp only at hSw);go_simp
  try simp only[Act.put,List.setIfInBounds_toArray,List.set_cons_zero,List.set_cons_succ]
  refine wpAnyH_take (i:=6) (v:=.string ⟨s.toArray⟩) rfl (by kernel_rfl) (by kernel_rfl) (by kernel_rfl) (fun _ _ _ h=>h) (Or.inl ⟨by rfl,?_⟩) hHeld ?_
  ·intro w2 hSw;(try dsimp only at hSw);go_simp
  try simp only[Act.put,List.setIfInBounds_toArray,List.set_cons_zero,List.set_cons_succ]
  refine wpAnyH_ready (rs:=[7]) (by kernel_rfl) (by simp) (AllReadyH.cons rfl (fun K hK=>?_) AllReadyH.nil);go_simp
  refine (HN _ (H.o.dk.gl.below (Qe (Wac _ _)))).out.mono ?_;rintro e w2 ⟨hb2,hn,hf⟩
  cases hk:Qx s with
  | none =>
   obtain rfl:=hf hk;have HW:Qn R (fun s=>QD R s Yu R.again) [s]=no 3 R:=by unfold QD Qn;simp only[hk]
   exact⟨rfl,by rw[HW];exact .no H.o (by decide) (Qa (Qe (Wac _ _)) hb2)⟩
  | some k =>
   obtain rfl:=hn _ hk;have HK:=Hm hk;have HB2:=Hm (Qa (Qe (Wac _ _)) hb2);refine hK.out _ _ ⟨(HB2.o.cell (p:=⟨D,0,none⟩) lt).trans hp,(HB2.o.cell (p:=⟨b,o,none⟩) bl).trans bc⟩ (fun hS2=>?_);clear hK K hb2 hn hf hk
   try simp only[Act.put,List.setIfInBounds_toArray,List.set_cons_zero,List.set_cons_succ]
   refine wpAnyH_ready (rs:=[8]) (by kernel_rfl) (by simp) (AllReadyH.cons rfl (fun K hK=>?_) AllReadyH.nil);go_simp
   have hk:=HK.o
   by_cases hin:0≤k∧k<(R.way.length:Int)
   ·obtain⟨i,rfl⟩:=Was hin.1;have hil:i<R.way.length:=by omega
    have HIL:=Hm hil;have HW:Hd (Qn R (fun s=>QD R s Yu R.again) [s]=(0,Yu,R.again i)):=⟨by unfold QD Qn;simp only[hk];rw[if_neg (by omega)];rfl⟩;clear hk hin;refine (Qn7 (i:=i) (H.o.dk.rm.below HB2.o) (Waj HIL.o) (by have:=H.o.ok.b.ok.wl;omega) (by have:=H.o.ok.b.l0;have:=H.o.ok.b.bd;have:=H.o.nn;omega)).mono ?_;rintro e w3 ⟨rfl,hs3⟩;have HS3:=Hm hs3;have hb2':=HB2.o.size;refine hK.out _ _ ⟨(hs3.cellD (Wal lt hb2') HBF.o.2.1).trans hS2.1,(hs3.cellD (Wal bl hb2') HBF.o.1).trans hS2.2⟩ (fun hS3=>?_);clear hK K hs3 hS2 hp bc
    try simp only[Act.put,List.setIfInBounds_toArray,List.set_cons_zero,List.set_cons_succ]
    refine wpAnyH_ready (rs:=[9]) (by kernel_rfl) (by simp) (AllReadyH.cons rfl (fun K hK=>?_) AllReadyH.nil);go_simp
    refine (HM0 _).out.mono ?_;rintro e w4 ⟨rfl,rfl⟩;refine hK.out _ _ hS3 (fun _=>?_);clear hK K hS3
    try simp only[Act.put,List.setIfInBounds_toArray,List.set_cons_zero,List.set_cons_succ]
    refine wpAnyH_done (by kernel_rfl) ?_ _;go_wp2
    go_ret;rw[HW.o]
    exact⟨fun _=>rfl,fun e=>absurd rfl e,DkS.from_below HB2.o ((H.o.dk.below HB2.o).step HS3.o)⟩
   ·have HW:Hd (Qn R (fun s=>QD R s Yu R.again) [s]=no 2 R):=⟨by unfold QD Qn;simp only[hk];rw[if_pos (by omega)]⟩;clear hk;refine (Qkf (H.o.dk.rm.below HB2.o) hin).mono ?_;rintro e w3 ⟨rfl,rfl⟩;refine hK.out _ _ hS2 (fun hS3=>?_);clear hK K hS2 hp bc
    try simp only[Act.put,List.setIfInBounds_toArray,List.set_cons_zero,List.set_cons_succ]
    refine wpAnyH_ready (rs:=[9]) (by kernel_rfl) (by simp) (AllReadyH.cons rfl (fun K hK=>?_) AllReadyH.nil);unfold errno;go_simp
    refine ((HM _ 2).out (H.o.dk.gl.below HB2.o).hdl).mono ?_;rintro e w4 ⟨rfl,hb4⟩
    exact⟨rfl,by rw[HW.o];exact .no H.o (by decide) (Qa HB2.o hb4)⟩
 ·have HW:Hd (Qn R (fun s=>QD R s Yu R.again) l=no 3 R):=⟨Xk h1⟩;obtain⟨A,c,rfl⟩:=hv.form;have HWD:=fun W (hg:Hdl W)=>Hm (ZG (A:=A) (m:=l.length) (c:=c) (n:=1) (by decide) (by decide) hv.ln (by omega) hg)
  clear h hv h1 hp;go_enter func109,ntmps109
  go_wp2_with (go_at_call 45;refine (HWD _ H.o.dk.gl.hdl).out.mono ?_;rintro e w1 ⟨rfl,hb1⟩;have HB1:=Hm hb1;clear hb1)
  exact⟨rfl,by rw[HW.o];exact .no H.o (by decide) HB1.o⟩
theorem Qnb (h:DkI X w D r R n)(hv:WrdI w r v l):Calls prog 105 #[.pointer (some ⟨D,0,none⟩),v] w (QS X D r (Qn R (fun s=>QO R s fun k _=>(0,Yh,R.asks k)) l) w):=by
 have H:=Hm h;have HV:=Hm hv;have hp:=h.dk.ptr;have lt:=h.dk.bx.lt;have HM:=fun W e=>Hm (fun hg=>ZE (w:=W) (e:=e) hg)
 have HM0:=fun W=>Hm (Yc W)
 by_cases h1:l.length=1
 ·obtain⟨s,rfl⟩:=List.length_eq_one_iff.1 h1;have HS:=Hm (hv.sz s (by simp));have HN:=fun W (hg:Glo W)=>Hm (ZU HS.o hg)
  obtain⟨b,o,c,rfl,bl,bc,bF⟩:=hv.at_ (k:=0) (s:=s) rfl;rw[Nat.add_zero] at bc;have HWD:=fun W=>Hm (ZF (A:=some ⟨b,o,none⟩) (m:=1) (c:=c) (n:=1) (by decide) (by decide) (by decide) rfl W)
  have HBF:=Hm (Wao bF (Wao h.dk.ap bl));clear h hv bF h1;have hS0:w.drew.cell? ⟨D,0,none⟩=some (.pointer (some ⟨r.a,0,none⟩))∧w.drew.cell? ⟨b,o,none⟩=some (.string ⟨s.toArray⟩):=⟨hp,bc⟩;have HS0:=Hm hS0;clear hS0;go_enter func105,ntmps105
  go_wp2_with (go_at_call 45;refine (HWD _).out.mono ?_;rintro e w1 ⟨rfl,rfl⟩)
  refine wp_region_held_drew (S:=fun w'=>w'.cell? ⟨D,0,none⟩=some (.pointer (some ⟨r.a,0,none⟩))∧w'.cell? ⟨b,o,none⟩=some (.string ⟨s.toArray⟩)) (by kernel_rfl) HS0.o (fun hHeld=>?_);refine wpAnyH_take (i:=0) (v:=.pointer (some ⟨D,0,none⟩)) rfl (by kernel_rfl) (by kernel_rfl) (by kernel_rfl) (fun _ _ _ h=>h) (Or.inl ⟨by rfl,?_⟩) hHeld ?_
  ·intro w2 hSw;(try dsimp only at hSw);go_simp
  try simp only[Act.put,List.setIfInBounds_toArray,List.set_cons_zero,List.set_cons_succ]
  refine wpAnyH_take (i:=1) (v:=.pointer (some ⟨D,0,none⟩)) rfl (by kernel_rfl) (by kernel_rfl) (by kernel_rfl) (fun _ _ _ h=>h) (Or.inl ⟨by rfl,?_⟩) hHeld ?_
  ·intro w2 hSw;(try dsimp only at hSw);go_simp
  try simp only[Act.put,List.setIfInBounds_toArray,List.set_cons_zero,List.set_cons_succ]
  refine wpAnyH_take (i:=2) (v:=.pointer (some ⟨D,0,none⟩)) rfl (by kernel_rfl) (by kernel_rfl) (by kernel_rfl) (fun _ _ _ h=>h) (Or.inl ⟨by rfl,?_⟩) hHeld ?_
  ·intro w2 hSw;(try dsimp only at hSw);go_simp
  try simp only[Act.put,List.setIfInBounds_toArray,List.set_cons_zero,List.set_cons_succ]
  refine wpAnyH_take (i:=3) (v:=.pointer (some ⟨r.a,0,none⟩)) rfl (by kernel_rfl) (by kernel_rfl) (by kernel_rfl) (fun _ _ _ h=>h) (Or.inl ⟨by rfl,?_⟩) hHeld ?_
  ·intro w2 hSw;(try dsimp only at hSw);go_simp
  try simp only[Act.put,List.setIfInBounds_toArray,List.set_cons_zero,List.set_cons_succ]
  refine wpAnyH_take (i:=4) (v:=.slice (some ⟨b,o,none⟩) 1 c) rfl (by kernel_rfl) (by kernel_rfl) (by kernel_rfl) (fun _ _ _ h=>h) (Or.inl ⟨by rfl,?_⟩) hHeld ?_
  ·intro w2 hSw;(try dsimp only at hSw);go_simp
  try simp only[Act.put,List.setIfInBounds_toArray,List.set_cons_zero,List.set_cons_succ]
  refine wpAnyH_take (i:=5) (v:=.pointer (some ⟨b,o,none⟩)) rfl (by kernel_rfl) (by kernel_rfl) (by kernel_rfl) (fun _ _ _ h=>h) (Or.inl ⟨by rfl,?_⟩) hHeld ?_
  ·intro w2 hSw;(try dsimp only at hSw);go_simp
  try simp only[Act.put,List.setIfInBounds_toArray,List.set_cons_zero,List.set_cons_succ]
  refine wpAnyH_take (i:=6) (v:=.string ⟨s.toArray⟩) rfl (by kernel_rfl) (by kernel_rfl) (by kernel_rfl) (fun _ _ _ h=>h) (Or.inl ⟨by rfl,?_⟩) hHeld ?_
  ·intro w2 hSw;(try dsimp only at hSw);go_simp
  try simp only[Act.put,List.setIfInBounds_toArray,List.set_cons_zero,List.set_cons_succ]
  refine wpAnyH_ready (rs:=[7]) (by kernel_rfl) (by simp) (AllReadyH.cons rfl (fun K hK=>?_) AllReadyH.nil);go_simp
  refine (HN _ (H.o.dk.gl.below (Qe (Wac _ _)))).out.mono ?_;rintro e w2 ⟨hb2,hn,hf⟩
  cases hk:Qx s with
  | none =>
   obtain rfl:=hf hk;have HW:Qn R (fun s=>QO R s fun k _=>(0,Yh,R.asks k)) [s]=no 3 R:=by unfold QO Qn;simp only[hk]
   exact⟨rfl,by rw[HW];exact .no H.o (by decide) (Qa (Qe (Wac _ _)) hb2)⟩
  | some k =>
   obtain rfl:=hn _ hk;have HK:=Hm hk;have HB2:=Hm (Qa (Qe (Wac _ _)) hb2);refine hK.out _ _ ⟨(HB2.o.cell (p:=⟨D,0,none⟩) lt).trans hp,(HB2.o.cell (p:=⟨b,o,none⟩) bl).trans bc⟩ (fun hS2=>?_);clear hK K hb2 hn hf hk
   try simp only[Act.put,List.setIfInBounds_toArray,List.set_cons_zero,List.set_cons_succ]
   refine wpAnyH_ready (rs:=[8]) (by kernel_rfl) (by simp) (AllReadyH.cons rfl (fun K hK=>?_) AllReadyH.nil);go_simp
   have hk:=HK.o
   by_cases hin:0≤k∧k<(R.cl.length:Int)
   ·obtain⟨i,rfl⟩:=Was hin.1;obtain⟨C,hC⟩:∃ C,R.cl[i]?=some C:=⟨_,Waj (by omega)⟩;have HC:=Hm hC;have HW:Hd (Qn R (fun s=>QO R s fun k _=>(0,Yh,R.asks k)) [s]=(0,Yh,R.asks i)):=⟨by unfold QO Qn;simp only[hk];rw[if_neg (by omega)];simp only[Int.toNat_natCast,hC]⟩;clear hC;clear hk hin;refine (Qf4 (k:=i) (H.o.dk.rm.below HB2.o) H.o.ok.b (by have:=H.o.nn;omega) (by have:=H.o.nn;omega) HC.o).mono ?_;rintro e w3 ⟨rfl,hs3⟩;have HS3:=Hm hs3;have hb2':=HB2.o.size;refine hK.out _ _ ⟨(hs3.cellD (Wal lt hb2') HBF.o.2.1).trans hS2.1,(hs3.cellD (Wal bl hb2') HBF.o.1).trans hS2.2⟩ (fun hS3=>?_);clear hK K hs3 hS2 hp bc
    try simp only[Act.put,List.setIfInBounds_toArray,List.set_cons_zero,List.set_cons_succ]
    refine wpAnyH_ready (rs:=[9]) (by kernel_rfl) (by simp) (AllReadyH.cons rfl (fun K hK=>?_) AllReadyH.nil);go_simp
    refine (HM0 _).out.mono ?_;rintro e w4 ⟨rfl,rfl⟩;refine hK.out _ _ hS3 (fun _=>?_);clear hK K hS3
    try simp only[Act.put,List.setIfInBounds_toArray,List.set_cons_zero,List.set_cons_succ]
    refine wpAnyH_done (by kernel_rfl) ?_ _;go_wp2
    go_ret;rw[HW.o]
    exact⟨fun _=>rfl,fun e=>absurd rfl e,DkS.from_below HB2.o ((H.o.dk.below HB2.o).step HS3.o)⟩
   ·have HW:Hd (Qn R (fun s=>QO R s fun k _=>(0,Yh,R.asks k)) [s]=no 2 R):=⟨by
     unfold QO Qn;simp only[hk]
     split
     ·rfl
     ·rename_i hk0
      rw[List.getElem?_eq_none (by omega)]⟩
    clear hk;refine (Qkc (H.o.dk.rm.below HB2.o) hin).mono ?_;rintro e w3 ⟨rfl,rfl⟩;refine hK.out _ _ hS2 (fun hS3=>?_);clear hK K hS2 hp bc
    try simp only[Act.put,List.setIfInBounds_toArray,List.set_cons_zero,List.set_cons_succ]
    refine wpAnyH_ready (rs:=[9]) (by kernel_rfl) (by simp) (AllReadyH.cons rfl (fun K hK=>?_) AllReadyH.nil);unfold errno;go_simp
    refine ((HM _ 2).out (H.o.dk.gl.below HB2.o).hdl).mono ?_;rintro e w4 ⟨rfl,hb4⟩
    exact⟨rfl,by rw[HW.o];exact .no H.o (by decide) (Qa HB2.o hb4)⟩
 ·have HW:Hd (Qn R (fun s=>QO R s fun k _=>(0,Yh,R.asks k)) l=no 3 R):=⟨Xk h1⟩;obtain⟨A,c,rfl⟩:=hv.form;have HWD:=fun W (hg:Hdl W)=>Hm (ZG (A:=A) (m:=l.length) (c:=c) (n:=1) (by decide) (by decide) hv.ln (by omega) hg)
  clear h hv h1 hp;go_enter func105,ntmps105
  go_wp2_with (go_at_call 45;refine (HWD _ H.o.dk.gl.hdl).out.mono ?_;rintro e w1 ⟨rfl,hb1⟩;have HB1:=Hm hb1;clear hb1)
  exact⟨rfl,by rw[HW.o];exact .no H.o (by decide) HB1.o⟩
end
end
section
open Go.RowKit Go.Sort
section
variable {X:Nat→Prop}{w w':World}{D:Nat}{r:RP}{R:RM}{n:Nat}{l:List Bs}{v:Value}
theorem Yz (f:Bs→Cm)(s:Bs):Qn R f [s]=f s:=rfl
theorem Qa7 {c:Cm}(h:l.length≠0):Z0 R c l=no 3 R:=by
 unfold Z0
 split
 ·exact absurd rfl h
 ·rfl
theorem Qa8 (s:Bs)(f:Nat→CV→Cm):(Qx s=none∧QO R s f=no 3 R)∨(∃ k,Qx s=some k∧¬ (0≤k∧k<R.cl.length)∧QO R s f=no 2 R)∨∃ (i:Nat) (C:CV),Qx s=some (i:Int)∧R.cl[i]?=some C∧QO R s f=f i C:=by
 unfold QO
 cases hk:Qx s with
 | none=>exact .inl ⟨rfl,rfl⟩
 | some k =>
  right
  by_cases h:0≤k∧k<R.cl.length
  ·obtain⟨i,rfl⟩:=Was h.1;obtain⟨C,hC⟩:∃ C,R.cl[i]?=some C:=⟨_,Waj (by omega)⟩;refine .inr ⟨i,C,rfl,hC,?_⟩;dsimp only;rw[if_neg (by omega)];simp only[Int.toNat_natCast,hC]
  ·refine .inl ⟨k,rfl,h,?_⟩;dsimp only
   split
   ·rfl
   ·rw[List.getElem?_eq_none (by omega)]
theorem Qui (h:DkI X w D r R n)(hv:WrdI w r v l):Calls prog 102 #[.pointer (some ⟨D,0,none⟩),v] w (QS X D r (Z0 R (0,Xr,R.quiet) l) w):=by
 have H:=Hm h;have hp:=h.dk.ptr;have lt:=h.dk.bx.lt;obtain⟨A,c,rfl⟩:=hv.form
 by_cases h1:l=[]
 ·subst h1;have HWD:=fun W=>Hm (ZF (A:=A) (m:=0) (c:=c) (n:=0) (by decide) (by decide) (by decide) rfl W)
  have HQ:=Hm (Qk8 h.dk.rm h.ok.b (by have:=h.nn;omega) (by have:=h.nn;omega) (by have:=h.ok.cl;omega));clear h hv;go_enter func102,ntmps102
  go_wp2_with (first
   | (go_at_call 45;refine (HWD _).out.mono ?_;rintro e w1 ⟨rfl,rfl⟩)
   | (go_at_call 150;refine HQ.o.mono ?_;rintro e w2 ⟨rfl,h2⟩;have H2:=Hm h2;clear h2))
  go_ret
  exact⟨fun _=>rfl,fun e=>absurd rfl e,H.o.dk.step H2.o⟩
 ·have hl:l.length≠0:=fun e=>h1 (List.length_eq_zero_iff.1 e)
  have HW:Hd (Z0 R (0,Xr,R.quiet) l=no 3 R):=⟨Qa7 hl⟩;have HWD:=fun W (hg:Hdl W)=>Hm (ZG (A:=A) (m:=l.length) (c:=c) (n:=0) (by decide) (by decide) hv.ln (by omega) hg)
  clear h hv h1 hp hl;go_enter func102,ntmps102
  go_wp2_with (go_at_call 45;refine (HWD _ H.o.dk.gl.hdl).out.mono ?_;rintro e w1 ⟨rfl,hb1⟩;have HB1:=Hm hb1;clear hb1)
  exact⟨rfl,by rw[HW.o];exact .no H.o (by decide) HB1.o⟩
theorem Quj (h:DkI X w D r R n)(hv:WrdI w r v l):Calls prog 100 #[.pointer (some ⟨D,0,none⟩),v] w (QS X D r (Z0 R (0,Lib.itoa R.way.length,R) l) w):=by
 have H:=Hm h;have hp:=h.dk.ptr;have lt:=h.dk.bx.lt;obtain⟨A,c,rfl⟩:=hv.form
 by_cases h1:l=[]
 ·subst h1;have HWD:=fun W=>Hm (ZF (A:=A) (m:=0) (c:=c) (n:=0) (by decide) (by decide) (by decide) rfl W)
  have HQ:=Hm (Qvu h.dk.rm);have HI:=Hm (Jl (n:=(R.way.length:Int)) (by omega) (by have:=h.ok.b.ok.wl;omega) h.dk.gl);clear h hv;go_enter func100,ntmps100
  go_wp2_with (first
   | (go_at_call 45;refine (HWD _).out.mono ?_;rintro e w1 ⟨rfl,rfl⟩)
   | (go_at_call 147;refine HQ.o.mono ?_;rintro e w2 ⟨rfl,rfl⟩)
   | (go_at_call 54;refine HI.o.mono ?_;rintro e w3 ⟨rfl,hb3⟩;have HB3:=Hm hb3;clear hb3))
  go_ret;exact .yes H.o HB3.o
 ·have hl:l.length≠0:=fun e=>h1 (List.length_eq_zero_iff.1 e)
  have HW:Hd (Z0 R (0,Lib.itoa R.way.length,R) l=no 3 R):=⟨Qa7 hl⟩;have HWD:=fun W (hg:Hdl W)=>Hm (ZG (A:=A) (m:=l.length) (c:=c) (n:=0) (by decide) (by decide) hv.ln (by omega) hg)
  clear h hv h1 hp hl;go_enter func100,ntmps100
  go_wp2_with (go_at_call 45;refine (HWD _ H.o.dk.gl.hdl).out.mono ?_;rintro e w1 ⟨rfl,hb1⟩;have HB1:=Hm hb1;clear hb1)
  exact⟨rfl,by rw[HW.o];exact .no H.o (by decide) HB1.o⟩
theorem Quk (h:DkI X w D r R n)(hv:WrdI w r v l):Calls prog 98 #[.pointer (some ⟨D,0,none⟩),v] w (QS X D r (Z0 R (0,Ju,R) l) w):=by
 have H:=Hm h;obtain⟨A,c,rfl⟩:=hv.form
 by_cases h1:l=[]
 ·subst h1;have HWD:=fun W=>Hm (ZF (A:=A) (m:=0) (c:=c) (n:=0) (by decide) (by decide) (by decide) rfl W)
  clear h hv;go_enter func98,ntmps98
  go_wp2_with (go_at_call 45;refine (HWD _).out.mono ?_;rintro e w1 ⟨rfl,rfl⟩)
  go_ret;exact .yes (t:=Ju) H.o (Wac _ _)
 ·have hl:l.length≠0:=fun e=>h1 (List.length_eq_zero_iff.1 e)
  have HW:Hd (Z0 R (0,Ju,R) l=no 3 R):=⟨Qa7 hl⟩;have HWD:=fun W (hg:Hdl W)=>Hm (ZG (A:=A) (m:=l.length) (c:=c) (n:=0) (by decide) (by decide) hv.ln (by omega) hg)
  clear h hv h1 hl;go_enter func98,ntmps98
  go_wp2_with (go_at_call 45;refine (HWD _ H.o.dk.gl.hdl).out.mono ?_;rintro e w1 ⟨rfl,hb1⟩;have HB1:=Hm hb1;clear hb1)
  exact⟨rfl,by rw[HW.o];exact .no H.o (by decide) HB1.o⟩
theorem DkI.client (h:DkI X w D r R n){i:Nat}{C:CV}(hC:R.cl[i]?=some C):∃ c,r.cs[i]?=some c∧CliR w (DF X r) c C:=h.dk.rm.get hC
theorem Qul (h:DkI X w D r R n)(hv:WrdI w r v l):Calls prog 108 #[.pointer (some ⟨D,0,none⟩),v] w (QS X D r (Qn R (fun s=>QO R s fun _ C=>(0,Zx (U.encs C.doc),R)) l) w):=by
 have H:=Hm h
 by_cases h1:l.length=1
 ·obtain⟨s,rfl⟩:=List.length_eq_one_iff.1 h1;have HCL:=Hm (Qa4 (s:=s) h (hv.sz s (by simp)));obtain⟨b,o,c,rfl,blt,bc,bF⟩:=hv.at_ (k:=0) (s:=s) rfl;rw[Nat.add_zero] at bc;have HWD:=fun W=>Hm (ZF (A:=some ⟨b,o,none⟩) (m:=1) (c:=c) (n:=1) (by decide) (by decide) (by decide) rfl W)
  rcases Qa8 (R:=R) s (fun _ C=>(0,Zx (U.encs C.doc),R)) with ⟨hk,hw⟩ | ⟨k,hk,hin,hw⟩ | ⟨i,C,hk,hC,hw⟩
  ·have HW:=Hm hw;have HK:=Hm hk;clear h hv bF h1 hk hw;go_enter func108,ntmps108
   go_wp2_with (first
    | (go_at_call 45;refine (HWD _).out.mono ?_;rintro e w1 ⟨rfl,rfl⟩)
    | (go_at_call 144;refine HCL.o.mono ?_;rintro e w1 ⟨hb1,h1,-,-⟩;obtain rfl:=h1 HK.o;have HB1:=Hm hb1;clear hb1 h1))
   exact⟨rfl,by rw[Yz,HW.o];exact .no H.o (by decide) HB1.o⟩
  ·have HW:=Hm hw;have HK:=Hm (Wao hk hin);clear h hv bF h1 hk hw hin;go_enter func108,ntmps108
   go_wp2_with (first
    | (go_at_call 45;refine (HWD _).out.mono ?_;rintro e w1 ⟨rfl,rfl⟩)
    | (go_at_call 144;refine HCL.o.mono ?_;rintro e w1 ⟨hb1,-,h1,-⟩;obtain rfl:=h1 _ HK.o.1 HK.o.2;have HB1:=Hm hb1;clear hb1 h1))
   exact⟨rfl,by rw[Yz,HW.o];exact .no H.o (by decide) HB1.o⟩
  ·have HW:=Hm hw;obtain⟨c1,hc1,hcr⟩:=h.client hC;have HK:=Hm (Wao hk hc1);have HT:=fun W (hb:Below w.heap.size w W)=>Hm (Qrq (hcr.below hb))
   have HTL:=fun W=>Hm (Qb0 (s:=U.encs C.doc) (by have:=(h.ok.seen hC).2.1;unfold bl at this;omega) W)
   clear h hv bF h1 hk hw hC hc1 hcr;go_enter func108,ntmps108
   go_wp2_with (first
    | (go_at_call 45;refine (HWD _).out.mono ?_;rintro e w1 ⟨rfl,rfl⟩)
    | (go_at_call 144;refine HCL.o.mono ?_;rintro e w1 ⟨hb1,-,-,h1⟩;obtain rfl:=h1 _ HK.o.1 _ HK.o.2;have HB1:=Hm hb1;clear hb1 h1)
    | (go_at_call 160;refine (HT _ HB1.o).out.mono ?_;rintro e w2 ⟨rfl,hb2⟩;have HB2:=Hm (Qa HB1.o hb2);clear hb2)
    | (go_at_call 154;refine (HTL _).out.mono ?_;rintro e w3 ⟨rfl,hb3⟩;have HB3:=Hm (Qa HB2.o hb3);clear hb3))
   go_ret;rw[Yz,HW.o];exact .yes H.o HB3.o
 ·have HW:Hd (Qn R (fun s=>QO R s fun _ C=>(0,Zx (U.encs C.doc),R)) l=no 3 R):=⟨Xk h1⟩;obtain⟨A,c,rfl⟩:=hv.form;have HWD:=fun W (hg:Hdl W)=>Hm (ZG (A:=A) (m:=l.length) (c:=c) (n:=1) (by decide) (by decide) hv.ln (by omega) hg)
  clear h hv h1;go_enter func108,ntmps108
  go_wp2_with (go_at_call 45;refine (HWD _ H.o.dk.gl.hdl).out.mono ?_;rintro e w1 ⟨rfl,hb1⟩;have HB1:=Hm hb1;clear hb1)
  exact⟨rfl,by rw[HW.o];exact .no H.o (by decide) HB1.o⟩
theorem Qum (h:DkI X w D r R n)(hv:WrdI w r v l):Calls prog 104 #[.pointer (some ⟨D,0,none⟩),v] w (QS X D r (Qn R (fun s=>QO R s fun _ C=>(0,Zx (U.encs C.seen),R)) l) w):=by
 have H:=Hm h
 by_cases h1:l.length=1
 ·obtain⟨s,rfl⟩:=List.length_eq_one_iff.1 h1;have HCL:=Hm (Qa4 (s:=s) h (hv.sz s (by simp)));obtain⟨b,o,c,rfl,blt,bc,bF⟩:=hv.at_ (k:=0) (s:=s) rfl;rw[Nat.add_zero] at bc;have HWD:=fun W=>Hm (ZF (A:=some ⟨b,o,none⟩) (m:=1) (c:=c) (n:=1) (by decide) (by decide) (by decide) rfl W)
  rcases Qa8 (R:=R) s (fun _ C=>(0,Zx (U.encs C.seen),R)) with ⟨hk,hw⟩ | ⟨k,hk,hin,hw⟩ | ⟨i,C,hk,hC,hw⟩
  ·have HW:=Hm hw;have HK:=Hm hk;clear h hv bF h1 hk hw;go_enter func104,ntmps104
   go_wp2_with (first
    | (go_at_call 45;refine (HWD _).out.mono ?_;rintro e w1 ⟨rfl,rfl⟩)
    | (go_at_call 144;refine HCL.o.mono ?_;rintro e w1 ⟨hb1,h1,-,-⟩;obtain rfl:=h1 HK.o;have HB1:=Hm hb1;clear hb1 h1))
   exact⟨rfl,by rw[Yz,HW.o];exact .no H.o (by decide) HB1.o⟩
  ·have HW:=Hm hw;have HK:=Hm (Wao hk hin);clear h hv bF h1 hk hw hin;go_enter func104,ntmps104
   go_wp2_with (first
    | (go_at_call 45;refine (HWD _).out.mono ?_;rintro e w1 ⟨rfl,rfl⟩)
    | (go_at_call 144;refine HCL.o.mono ?_;rintro e w1 ⟨hb1,-,h1,-⟩;obtain rfl:=h1 _ HK.o.1 HK.o.2;have HB1:=Hm hb1;clear hb1 h1))
   exact⟨rfl,by rw[Yz,HW.o];exact .no H.o (by decide) HB1.o⟩
  ·have HW:=Hm hw;obtain⟨c1,hc1,hcr⟩:=h.client hC;have HK:=Hm (Wao hk hc1);have HT:=fun W (hb:Below w.heap.size w W)=>Hm (Qrn (hcr.below hb))
   have HTL:=fun W=>Hm (Qb0 (s:=U.encs C.seen) (by have:=(h.ok.seen hC).1;unfold bl at this;omega) W)
   clear h hv bF h1 hk hw hC hc1 hcr;go_enter func104,ntmps104
   go_wp2_with (first
    | (go_at_call 45;refine (HWD _).out.mono ?_;rintro e w1 ⟨rfl,rfl⟩)
    | (go_at_call 144;refine HCL.o.mono ?_;rintro e w1 ⟨hb1,-,-,h1⟩;obtain rfl:=h1 _ HK.o.1 _ HK.o.2;have HB1:=Hm hb1;clear hb1 h1)
    | (go_at_call 155;refine (HT _ HB1.o).out.mono ?_;rintro e w2 ⟨rfl,rfl⟩;have HB2:=Hm HB1.o)
    | (go_at_call 154;refine (HTL _).out.mono ?_;rintro e w3 ⟨rfl,hb3⟩;have HB3:=Hm (Qa HB2.o hb3);clear hb3))
   go_ret;rw[Yz,HW.o];exact .yes H.o HB3.o
 ·have HW:Hd (Qn R (fun s=>QO R s fun _ C=>(0,Zx (U.encs C.seen),R)) l=no 3 R):=⟨Xk h1⟩;obtain⟨A,c,rfl⟩:=hv.form;have HWD:=fun W (hg:Hdl W)=>Hm (ZG (A:=A) (m:=l.length) (c:=c) (n:=1) (by decide) (by decide) hv.ln (by omega) hg)
  clear h hv h1;go_enter func104,ntmps104
  go_wp2_with (go_at_call 45;refine (HWD _ H.o.dk.gl.hdl).out.mono ?_;rintro e w1 ⟨rfl,hb1⟩;have HB1:=Hm hb1;clear hb1)
  exact⟨rfl,by rw[HW.o];exact .no H.o (by decide) HB1.o⟩
theorem Qun (h:DkI X w D r R n)(hv:WrdI w r v l):Calls prog 103 #[.pointer (some ⟨D,0,none⟩),v] w (QS X D r (Qn R (fun s=>QO R s fun _ C=>(0,XD C,R)) l) w):=by
 have H:=Hm h
 by_cases h1:l.length=1
 ·obtain⟨s,rfl⟩:=List.length_eq_one_iff.1 h1;have HCL:=Hm (Qa4 (s:=s) h (hv.sz s (by simp)));obtain⟨b,o,c,rfl,blt,bc,bF⟩:=hv.at_ (k:=0) (s:=s) rfl;rw[Nat.add_zero] at bc;have HWD:=fun W=>Hm (ZF (A:=some ⟨b,o,none⟩) (m:=1) (c:=c) (n:=1) (by decide) (by decide) (by decide) rfl W)
  rcases Qa8 (R:=R) s (fun _ C=>(0,XD C,R)) with ⟨hk,hw⟩ | ⟨k,hk,hin,hw⟩ | ⟨i,C,hk,hC,hw⟩
  ·have HW:=Hm hw;have HK:=Hm hk;clear h hv bF h1 hk hw;go_enter func103,ntmps103
   go_wp2_with (first
    | (go_at_call 45;refine (HWD _).out.mono ?_;rintro e w1 ⟨rfl,rfl⟩)
    | (go_at_call 144;refine HCL.o.mono ?_;rintro e w1 ⟨hb1,h1,-,-⟩;obtain rfl:=h1 HK.o;have HB1:=Hm hb1;clear hb1 h1))
   exact⟨rfl,by rw[Yz,HW.o];exact .no H.o (by decide) HB1.o⟩
  ·have HW:=Hm hw;have HK:=Hm (Wao hk hin);clear h hv bF h1 hk hw hin;go_enter func103,ntmps103
   go_wp2_with (first
    | (go_at_call 45;refine (HWD _).out.mono ?_;rintro e w1 ⟨rfl,rfl⟩)
    | (go_at_call 144;refine HCL.o.mono ?_;rintro e w1 ⟨hb1,-,h1,-⟩;obtain rfl:=h1 _ HK.o.1 HK.o.2;have HB1:=Hm hb1;clear hb1 h1))
   exact⟨rfl,by rw[Yz,HW.o];exact .no H.o (by decide) HB1.o⟩
  ·have HW:=Hm hw;obtain⟨c1,hc1,hcr⟩:=h.client hC;have HK:=Hm (Wao hk hc1);have HT:=fun W (hb:Below w.heap.size w W)=>Hm (Wao (Qrm (hcr.below hb)) (Wao (Qrp (hcr.below hb)) (Qro (hcr.below hb))))
   have HRB:=Hm (Wao (h.ok.seen hC).2.2 h.nn)
   have HJB:Hd (∀ x∈[(C.rev:Int),C.dropped],-9223372036854775808≤x∧x≤9223372036854775807):=⟨by
    obtain⟨⟨h1,h2,h3⟩,h4⟩:=HRB.o;intro x hx;simp at hx;rcases hx with rfl | rfl<;>omega⟩
   have HFB:=fun W=>Hm (Qnh C.has W)
   have HJL:Hd ((Zy [(C.rev:Int),C.dropped]).length≤100∧(Lib.formatBool C.has).length≤10):=⟨Wbf (X3 HJB.o) (by simp),by cases C.has<;>decide⟩;obtain⟨jl1,jl2⟩:=HJL.o;clear h hv bF h1 hk hw hC hc1 hcr;go_enter func103,ntmps103
   go_wp2_with (first
    | (go_at_call 45;refine (HWD _).out.mono ?_;rintro e w1 ⟨rfl,rfl⟩)
    | (go_at_call 144;refine HCL.o.mono ?_;rintro e w1 ⟨hb1,-,-,h1⟩;obtain rfl:=h1 _ HK.o.1 _ HK.o.2;have HB1:=Hm hb1;clear hb1 h1)
    | (go_at_call 151;refine (HT _ HB1.o).out.1.mono ?_;rintro e w2 ⟨rfl,rfl⟩)
    | (go_at_call 152;refine (HT _ HB1.o).out.2.1.mono ?_;rintro e w3 ⟨rfl,rfl⟩)
    | (go_at_call 142;refine (Qbe (l:=[(C.rev:Int),C.dropped]) (n:=2) (by decide) (by decide) HJB.o (Sl.of_blk (Blk.new _ _ _) rfl (by unfold maxLen;omega)) (H.o.dk.gl.below (Qb HB1.o _))).mono ?_;rintro e w4 ⟨rfl,hb4⟩;have HB4:=Hm (Qa (Qb HB1.o _) hb4);clear hb4)
    | (go_at_call 153;refine (HT _ HB4.o).out.2.2.mono ?_;rintro e w5 ⟨rfl,rfl⟩)
    | (go_at_call 74;refine (HFB _).out.mono ?_;rintro e w6 ⟨rfl,rfl⟩))
   go_ret;rw[Yz,HW.o];exact .yes (t:=XD C) H.o HB4.o
 ·have HW:Hd (Qn R (fun s=>QO R s fun _ C=>(0,XD C,R)) l=no 3 R):=⟨Xk h1⟩;obtain⟨A,c,rfl⟩:=hv.form;have HWD:=fun W (hg:Hdl W)=>Hm (ZG (A:=A) (m:=l.length) (c:=c) (n:=1) (by decide) (by decide) hv.ln (by omega) hg)
  clear h hv h1;go_enter func103,ntmps103
  go_wp2_with (go_at_call 45;refine (HWD _ H.o.dk.gl.hdl).out.mono ?_;rintro e w1 ⟨rfl,hb1⟩;have HB1:=Hm hb1;clear hb1)
  exact⟨rfl,by rw[HW.o];exact .no H.o (by decide) HB1.o⟩
end
end
section
open Go.RowKit Go.Sort
section
variable {X:Nat→Prop}{w w':World}{D:Nat}{r:RP}{R:RM}{n:Nat}{l:List Bs}{v:Value}
theorem keepD {W:World}{a:Nat}(hb:Below w.heap.size w W)(hp:w.cell? ⟨D,0,none⟩=some (.pointer (some ⟨a,0,none⟩)))(lt:D<w.heap.size):Below w.heap.size w W∧BXD D a W:=⟨hb,(hb.cell (p:=⟨D,0,none⟩) lt).trans hp,Wal lt hb.size⟩
theorem Qai {s:Bs}(h:s.length≤1000000):(Qj s).length≤1000000:=by
 unfold Qj
 split
 ·simp
 ·simpa using h
theorem Qp1 (h:DkI X w D r R n)(hv:WrdI w r v l):Calls prog 106 #[.pointer (some ⟨D,0,none⟩),v] w (QS X D r (Z0 R (0,XV R,R) l) w):=by
 have H:=Hm h;have hp:=h.dk.ptr;have lt:=h.dk.bx.lt;obtain⟨A,c,rfl⟩:=hv.form
 by_cases h1:l=[]
 ·subst h1;have HWD:=fun W=>Hm (ZF (A:=A) (m:=0) (c:=c) (n:=0) (by decide) (by decide) (by decide) rfl W)
  have HRV:=fun W (hb:Below w.heap.size w W)=>Hm (Qvv (h.dk.rm.below hb))
  have HTX:=fun W (hb:Below w.heap.size w W)=>Hm (Qvw (h.dk.rm.below hb))
  have HTL:=fun W=>Hm (Qb0 (s:=R.srv.doc) (by have:=h.ok.b.ok.sv.doc_le;omega) W)
  have HLN:=Hm (Wao h.ok.b.ok.ln h.ok.b.ok.sv.doc_le)
  have HJB:Hd (∀ x∈[(R.srv.log.length:Int)],-9223372036854775808≤x∧x≤9223372036854775807):=⟨by
   have:=HLN.o.1
   intro x hx;simp at hx;subst hx;omega⟩
  have HJ:=fun W (hb:Below w.heap.size w W) (v:Value) hs=>Hm (Qbe (w:=W) (v:=v) (n:=1) (l:=[(R.srv.log.length:Int)]) (by decide) (by decide) HJB.o hs (h.dk.gl.below hb))
  have jl1:(Zy [(R.srv.log.length:Int)]).length≤100:=Wbf (X3 HJB.o) (by simp);have jl2:(Zx R.srv.doc).length≤10000:=by have:=JW R.srv.doc;have:=HLN.o.2;omega
  have hno1:¬ 9223372036854775807<(Zy [(R.srv.log.length:Int)]).length+1:=by omega
  have hno2:¬ 9223372036854775807<(Zy [(R.srv.log.length:Int)]).length+1+(Zx R.srv.doc).length:=by omega
  clear h hv;go_enter func106,ntmps106
  go_wp2_with (go_at_call 45;refine (HWD _).out.mono ?_;rintro e w1 ⟨rfl,rfl⟩)
  go_region_held3 (fun w'=>Below w.heap.size w w'∧BXD D r.a w') (first | exact keepD HB9.o hp lt | exact keepD HB8.o hp lt | exact keepD HB7.o hp lt | exact keepD (by repeat (first | exact Wac _ _ | exact Qe (by assumption) | apply Qe | apply Qo | apply Qb | assumption)) hp lt | assumption)
   (first
    | (go_at_call 157;refine (HRV _ (by repeat (first | exact Wac _ _ | exact Qe (by assumption) | apply Qe | apply Qo | apply Qb | assumption))).out.mono ?_;rintro e w2 ⟨rfl,rfl⟩)
    | (go_at_call 142;refine (HJ _ (by repeat (first | exact Wac _ _ | exact Qe (by assumption) | apply Qe | apply Qo | apply Qb | assumption)) _ (by first | exact Sl.of_blk (Blk.new w 3 #[.int .i64 (R.srv.log.length:Int)]).drew_' rfl (by unfold maxLen;omega) | exact Sl.of_blk (Blk.new w.drew 3 #[.int .i64 (R.srv.log.length:Int)]) rfl (by unfold maxLen;omega))).out.mono ?_;rintro e w4 ⟨rfl,hb4⟩;have HB7:Hd (Below w.heap.size w w4):=⟨Qa (by repeat (first | exact Wac _ _ | exact Qe (by assumption) | apply Qe | apply Qo | apply Qb | assumption)) hb4⟩;clear hb4)
    | (go_at_call 158;refine (HTX _ HB7.o).out.mono ?_;rintro e w5 ⟨rfl,hb5⟩;have HB8:=Hm (Qa HB7.o hb5);clear hb5)
    | (go_at_call 154;refine (HTL _).out.mono ?_;rintro e w6 ⟨rfl,hb6⟩;have HB9:=Hm (Qa HB8.o hb6);clear hb6))
  all_goals
   go_wp2
   go_ret;exact .yes (t:=XV R) H.o HB9.o
 ·have hl:l.length≠0:=fun e=>h1 (List.length_eq_zero_iff.1 e)
  have HW:Hd (Z0 R (0,XV R,R) l=no 3 R):=⟨Qa7 hl⟩;have HWD:=fun W (hg:Hdl W)=>Hm (ZG (A:=A) (m:=l.length) (c:=c) (n:=0) (by decide) (by decide) hv.ln (by omega) hg)
  clear h hv h1 hp hl;go_enter func106,ntmps106
  go_wp2_with (go_at_call 45;refine (HWD _ H.o.dk.gl.hdl).out.mono ?_;rintro e w1 ⟨rfl,hb1⟩;have HB1:=Hm hb1;clear hb1)
  exact⟨rfl,by rw[HW.o];exact .no H.o (by decide) HB1.o⟩
end
section
variable {X:Nat→Prop}{w w':World}{D:Nat}{r:RP}{R:RM}{n:Nat}{l:List Bs}{v:Value}
theorem Blk.new2 (w:World)(o:Obj)(t:TypeId)(cs:Array Value):Blk ((w.alloc o).alloc (.cells cs t)) (w.heap.size+1) t cs:=by
 have:=Blk.new (w.alloc o) t cs
 rwa [Waq] at this
theorem Qp2 {p:List Int}(h:p.length≤1000000):∀ x∈[(cnt p).b,(cnt p).h,(cnt p).r,(cnt p).l],-9223372036854775808≤x∧x≤9223372036854775807:=by
 obtain⟨⟨b0,b1,h0,h1,r0,r1,l0,l1⟩,-,-⟩:=Zk p;intro x hx;simp at hx;rcases hx with rfl | rfl | rfl | rfl<;>omega
theorem Qp3 (h:DkI X w D r R n)(hv:WrdI w r v l):Calls prog 95 #[.pointer (some ⟨D,0,none⟩),v] w (QS X D r (Qn R (ZV R) l) w):=by
 have H:=Hm h
 by_cases h1:l.length=1
 ·obtain⟨s,rfl⟩:=List.length_eq_one_iff.1 h1;have hs:=hv.sz s (by simp);have HPL:=Hm (Ji hs w);have hpl:=Qai hs;have HCN:=fun W=>Hm (Xv (YD (Qj s)) W (by omega))
  have HJB:=Hm (Qp2 (p:=(spl (Qj s)).1) (Wbf (Qe2 _) hpl));obtain⟨b,o,c,rfl,blt,bc,bF⟩:=hv.at_ (k:=0) (s:=s) rfl;rw[Nat.add_zero] at bc;have HWD:=fun W=>Hm (ZF (A:=some ⟨b,o,none⟩) (m:=1) (c:=c) (n:=1) (by decide) (by decide) (by decide) rfl W)
  have HM:=fun W g p (ha:QU W g 3 p)=>Hm (fun hg=>Qce (w:=W) hg ha)
  have HM0:=fun W=>Hm (Yc W)
  by_cases hr:(spl (Qj s)).2=[]
  ·have HW:Hd (Qn R (ZV R) [s]=(0,Zy [(cnt (spl (Qj s)).1).b,(cnt (spl (Qj s)).1).h,(cnt (spl (Qj s)).1).r,(cnt (spl (Qj s)).1).l],R)):=⟨by rw[Yz];unfold ZV;rw[if_neg (by simpa using hr)]⟩;have HR:=Hm hr;generalize (spl (Qj s)).1=rs at *;clear h hv bF h1 hr hs hpl;go_enter func95,ntmps95
   go_wp2_with (first
    | (go_at_call 45;refine (HWD _).out.mono ?_;rintro e w1 ⟨rfl,rfl⟩)
    | (go_at_call 48;refine HPL.o.mono ?_;rintro e w2 ⟨rfl,hb2⟩;have HB2:=Hm hb2;clear hb2)
    | (go_at_call 133;refine (HCN _).out.mono ?_;rintro e w3 ⟨hb3,hok,-⟩;obtain rfl:=hok HR.o;have HB3:=Hm (Qa HB2.o hb3);clear hb3 hok)
    | (go_at_call 49;refine (HM0 _).out.mono ?_;rintro e w4 ⟨rfl,rfl⟩)
    | (go_at_call 142;refine (Qbe (l:=[(cnt rs).b,(cnt rs).h,(cnt rs).r,(cnt rs).l]) (n:=4) (by decide) (by decide) HJB.o (Sl.of_blk (Blk.new2 _ _ _ _) rfl (by unfold maxLen;omega)) (H.o.dk.gl.below (Qb (Qb HB3.o _) _))).mono ?_;rintro e w5 ⟨rfl,hb5⟩;have HB5:=Hm (Qa (Qb (Qb HB3.o _) _) hb5);clear hb5))
   go_ret;rw[HW.o];exact .yes H.o HB5.o
  ·have HW:Hd (Qn R (ZV R) [s]=no 3 R):=⟨by rw[Yz];unfold ZV;rw[if_pos hr]⟩;have HR:=Hm hr;generalize (spl (Qj s)).1=rs at *;clear h hv bF h1 hr hs hpl;go_enter func95,ntmps95
   go_wp2_with (first
    | (go_at_call 45;refine (HWD _).out.mono ?_;rintro e w1 ⟨rfl,rfl⟩)
    | (go_at_call 48;refine HPL.o.mono ?_;rintro e w2 ⟨rfl,hb2⟩;have HB2:=Hm hb2;clear hb2)
    | (go_at_call 133;refine (HCN _).out.mono ?_;rintro e w3 ⟨hb3,-,hok⟩;obtain⟨g,rfl,hat⟩:=hok HR.o;have HB3:=Hm (Qa HB2.o hb3);have HAT:=Hm hat;clear hb3 hok hat)
    | (go_at_call 49;refine ((HM _ g _ (HAT.o.below (Qb (Wac _ _) _))).out (H.o.dk.gl.below (Qb HB3.o _)).hdl).mono ?_;rintro e w4 ⟨rfl,hb4⟩;have HB4:=Hm (Qa (Qb HB3.o _) hb4);clear hb4))
   exact⟨rfl,by rw[HW.o];exact .no H.o (by decide) HB4.o⟩
 ·have HW:Hd (Qn R (ZV R) l=no 3 R):=⟨Xk h1⟩;obtain⟨A,c,rfl⟩:=hv.form;have HWD:=fun W (hg:Hdl W)=>Hm (ZG (A:=A) (m:=l.length) (c:=c) (n:=1) (by decide) (by decide) hv.ln (by omega) hg)
  clear h hv h1;go_enter func95,ntmps95
  go_wp2_with (go_at_call 45;refine (HWD _ H.o.dk.gl.hdl).out.mono ?_;rintro e w1 ⟨rfl,hb1⟩;have HB1:=Hm hb1;clear hb1)
  exact⟨rfl,by rw[HW.o];exact .no H.o (by decide) HB1.o⟩
def Qp4 (s:Bs)(w:World)(e:Ending)(w':World):Prop :=
 Below w.heap.size w w'∧((spl (Qj s)).2≠[]→e=.panicked (thr 3))∧((spl (Qj s)).2=[]→8000<bl (spl (Qj s)).1→e=.panicked (thr 12)) ∧
  ((spl (Qj s)).2=[]→bl (spl (Qj s)).1≤8000→∃ p t,e=.returned (.pointer (some ⟨p,0,none⟩))∧AtR w' p t∧Good t∧t.runes=(spl (Qj s)).1)
theorem Qgz {s:Bs}(hs:s.length≤1000000)(hg:Glo w):Calls prog 149 #[.string ⟨s.toArray⟩] w (Qp4 s w):=by
 have HPL:=Hm (Ji hs w);have hpl:=Qai hs;have HN:=fun W=>Hm (Qaj (YD (Qj s)) W hpl)
 have HG:=Hm hg;have HM:=fun W g p (ha:QU W g 3 p)=>Hm (fun hg=>Qce (w:=W) hg ha)
 have HM1:=fun W=>Hm (fun hg=>ZE (w:=W) (e:=12) hg)
 have HM0:=fun W=>Hm (Yc W)
 clear hs hpl hg
 by_cases hr:(spl (Qj s)).2=[]
 ·by_cases h8:8000<bl (spl (Qj s)).1
  ·have HR:=Hm (Wao hr h8);clear hr h8;go_enter func149,ntmps149
   go_wp2_with (first
    | (go_at_call 48;refine HPL.o.mono ?_;rintro e w2 ⟨rfl,hb2⟩;have HB2:=Hm hb2;clear hb2)
    | (go_at_call 134;refine (HN _).out.mono ?_;rintro e w3 ⟨hb3,-,hok,-⟩;obtain rfl:=hok HR.o.1 HR.o.2;unfold errno;have HB3:=Hm (Qa HB2.o hb3);clear hb3 hok)
    | (go_at_call 49;refine ((HM1 _).out (HG.o.below HB3.o).hdl).mono ?_;rintro e w4 ⟨rfl,hb4⟩;have HB4:=Hm (Qa HB3.o hb4);clear hb4))
   exact⟨rfl,HB4.o,fun e=>absurd HR.o.1 e,fun _ _=>rfl,fun _ e=>absurd HR.o.2 (by omega)⟩
  ·have HR:=Hm (Wao hr h8);clear hr h8;go_enter func149,ntmps149
   go_wp2_with (first
    | (go_at_call 48;refine HPL.o.mono ?_;rintro e w2 ⟨rfl,hb2⟩;have HB2:=Hm hb2;clear hb2)
    | (go_at_call 134;refine (HN _).out.mono ?_;rintro e w3 ⟨hb3,-,-,hok⟩;obtain⟨p,t,rfl,h1,h2,h3,-⟩:=hok HR.o.1 (by have:=HR.o.2;omega);have HX:=Hm (Wao h1 (Wao h2 h3));have HB3:=Hm (Qa HB2.o hb3);clear hb3 hok h1 h2 h3)
    | (go_at_call 49;refine (HM0 _).out.mono ?_;rintro e w4 ⟨rfl,rfl⟩))
   go_ret
   exact⟨HB3.o,fun e=>absurd HR.o.1 e,fun _ e=>absurd e HR.o.2,fun _ _=>⟨p,t,rfl,HX.o⟩⟩
 ·have HR:=Hm hr;clear hr;go_enter func149,ntmps149
  go_wp2_with (first
   | (go_at_call 48;refine HPL.o.mono ?_;rintro e w2 ⟨rfl,hb2⟩;have HB2:=Hm hb2;clear hb2)
   | (go_at_call 134;refine (HN _).out.mono ?_;rintro e w3 ⟨hb3,hok,-,-⟩;obtain⟨g,rfl,hat⟩:=hok HR.o;have HB3:=Hm (Qa HB2.o hb3);have HAT:=Hm hat;clear hb3 hok hat)
   | (go_at_call 49;refine ((HM _ g _ HAT.o).out (HG.o.below HB3.o).hdl).mono ?_;rintro e w4 ⟨rfl,hb4⟩;have HB4:=Hm (Qa HB3.o hb4);clear hb4))
  exact⟨rfl,HB4.o,fun _=>rfl,fun e=>absurd e HR.o,fun e=>absurd e HR.o⟩
end
end
section
open Go.RowKit Go.Sort
section
variable {X:Nat→Prop}{w w':World}{D:Nat}{r:RP}{R:RM}{n:Nat}{l:List Bs}{v:Value}
theorem Qjs {s:Bs}{f:List Int→Cm}(h:(spl (Qj s)).2≠[]):Yg R s f=no 3 R:=by unfold Yg;rw[if_pos h]
theorem Qjt {s:Bs}{f:List Int→Cm}(h:(spl (Qj s)).2=[])(h8:8000<bl (spl (Qj s)).1):Yg R s f=no 12 R:=by unfold Yg;rw[if_neg (by simpa using h),if_pos h8]
theorem Qju {s:Bs}{f:List Int→Cm}(h:(spl (Qj s)).2=[])(h8:¬ 8000<bl (spl (Qj s)).1):Yg R s f=f (spl (Qj s)).1:=by unfold Yg;rw[if_neg (by simpa using h),if_neg h8]
theorem Qwj {l:List Bs}(h:l.length≠3):Z8 R l=no 3 R:=by
 unfold Z8
 split
 ·exact absurd rfl h
 ·rfl
theorem Qwk {l:List Bs}(h:l.length≠4):Zp R l=no 3 R:=by
 unfold Zp
 split
 ·exact absurd rfl h
 ·rfl
theorem Qjv:erV 0=.nilIface:=rfl
theorem Qwl {a b:Int}(ha:-100000≤a∧a≤100000)(hb:-100000≤b∧b≤100000):∀ x∈[a,b],-9223372036854775808≤x∧x≤9223372036854775807:=by
 intro x hx;simp at hx;rcases hx with rfl | rfl<;>omega
theorem Qwm (h:DkI X w D r R n)(hv:WrdI w r v l):Calls prog 107 #[.pointer (some ⟨D,0,none⟩),v] w (QS X D r (Z8 R l) w):=by
 have H:=Hm h;have HM0:=fun W=>Hm (Yc W)
 have HM:=fun W e=>Hm (fun hg=>ZE (w:=W) (e:=e) hg)
 by_cases h1:l.length=3
 ·obtain⟨s,x1,x2,rfl⟩:∃ s x1 x2,l=[s,x1,x2]:=by
   match l,h1 with
   | [s,x1,x2],_=>exact⟨s,x1,x2,rfl⟩
  have hs:=hv.sz s (by simp);have HN1:=fun W (hg:Glo W)=>Hm (ZU (hv.sz x1 (by simp)) hg)
  have HN2:=fun W (hg:Glo W)=>Hm (ZU (hv.sz x2 (by simp)) hg)
  obtain⟨b,o,c,rfl,blt,bc,-⟩:=hv.at_ (k:=0) (s:=s) rfl;rw[Nat.add_zero] at bc;have c1:w.cell? ⟨b,o+1,none⟩=some (.string ⟨x1.toArray⟩):=by obtain⟨b',o',c',e,-,z,-⟩:=hv.at_ (k:=1) (s:=x1) rfl;cases e;exact z
  have c2:w.cell? ⟨b,o+2,none⟩=some (.string ⟨x2.toArray⟩):=by obtain⟨b',o',c',e,-,z,-⟩:=hv.at_ (k:=2) (s:=x2) rfl;cases e;exact z
  have HWD:=fun W=>Hm (ZF (A:=some ⟨b,o,none⟩) (m:=3) (c:=c) (n:=3) (by decide) (by decide) (by decide) rfl W)
  have hst:∀ W,Below w.heap.size w W→W.cell? ⟨b,o+1,none⟩=some (.string ⟨x1.toArray⟩)∧W.cell? ⟨b,o+2,none⟩=some (.string ⟨x2.toArray⟩):=fun W hb=>⟨(hb.cell (p:=⟨b,o+1,none⟩) blt).trans c1,(hb.cell (p:=⟨b,o+2,none⟩) blt).trans c2⟩
  have HS0:=Hm (hst w.drew (Qe (Wac _ _)));have HBC:=Hm (Wao blt bc);have HDC:=fun W (hg:Glo W)=>Hm (Qgz (s:=s) hs hg)
  clear h hv h1 hs bc;go_enter func107,ntmps107
  go_wp2_with (go_at_call 45;refine (HWD _).out.mono ?_;rintro e wz ⟨rfl,rfl⟩)
  refine wp_region_held_drew (S:=fun w'=>w'.cell? ⟨b,o+1,none⟩=some (.string ⟨x1.toArray⟩)∧w'.cell? ⟨b,o+2,none⟩=some (.string ⟨x2.toArray⟩)) (by kernel_rfl) HS0.o (fun hHeld=>?_);refine wpAnyH_take (i:=0) (v:=.slice (some ⟨b,o,none⟩) 3 c) rfl (by kernel_rfl) (by kernel_rfl) (by kernel_rfl) (fun _ _ _ h=>h) (Or.inl ⟨by rfl,?_⟩) hHeld ?_
  ·intro w2 hSw;(try dsimp only at hSw);go_simp
  try simp only[Act.put,List.setIfInBounds_toArray,List.set_cons_zero,List.set_cons_succ]
  refine wpAnyH_take (i:=1) (v:=.pointer (some ⟨b,o+1,none⟩)) rfl (by kernel_rfl) (by kernel_rfl) (by kernel_rfl) (fun _ _ _ h=>h) (Or.inl ⟨by rfl,?_⟩) hHeld ?_
  ·intro w2 hSw;(try dsimp only at hSw);go_simp
  try simp only[Act.put,List.setIfInBounds_toArray,List.set_cons_zero,List.set_cons_succ]
  refine wpAnyH_take (i:=2) (v:=.string ⟨x1.toArray⟩) rfl (by kernel_rfl) (by kernel_rfl) (by kernel_rfl) (fun _ _ _ h=>h) (Or.inl ⟨by rfl,?_⟩) hHeld ?_
  ·intro w2 hSw;(try dsimp only at hSw);go_simp
  try simp only[Act.put,List.setIfInBounds_toArray,List.set_cons_zero,List.set_cons_succ]
  refine wpAnyH_take (i:=4) (v:=.slice (some ⟨b,o,none⟩) 3 c) rfl (by kernel_rfl) (by kernel_rfl) (by kernel_rfl) (fun _ _ _ h=>h) (Or.inl ⟨by rfl,?_⟩) hHeld ?_
  ·intro w2 hSw;(try dsimp only at hSw);go_simp
  try simp only[Act.put,List.setIfInBounds_toArray,List.set_cons_zero,List.set_cons_succ]
  refine wpAnyH_take (i:=5) (v:=.pointer (some ⟨b,o+2,none⟩)) rfl (by kernel_rfl) (by kernel_rfl) (by kernel_rfl) (fun _ _ _ h=>h) (Or.inl ⟨by rfl,?_⟩) hHeld ?_
  ·intro w2 hSw;(try dsimp only at hSw);go_simp
  try simp only[Act.put,List.setIfInBounds_toArray,List.set_cons_zero,List.set_cons_succ]
  refine wpAnyH_take (i:=6) (v:=.string ⟨x2.toArray⟩) rfl (by kernel_rfl) (by kernel_rfl) (by kernel_rfl) (fun _ _ _ h=>h) (Or.inl ⟨by rfl,?_⟩) hHeld ?_
  ·intro w2 hSw;(try dsimp only at hSw);go_simp
  try simp only[Act.put,List.setIfInBounds_toArray,List.set_cons_zero,List.set_cons_succ]
  refine wpAnyH_ready (rs:=[3]) (by kernel_rfl) (by simp) (AllReadyH.cons rfl (fun K hK=>?_) AllReadyH.nil);go_simp
  refine (HN1 _ (H.o.dk.gl.below (Qe (Wac _ _)))).out.mono ?_;rintro e w1 ⟨hb1,hn1,hf1⟩
  cases e1:Qx x1 with
  | none =>
   obtain rfl:=hf1 e1;have HW:Z8 R [s,x1,x2]=no 3 R:=by simp only[Z8,QG,e1]
   exact⟨rfl,by rw[HW];exact .no H.o (by decide) (Qa (Qe (Wac _ _)) hb1)⟩
  | some k1 =>
   obtain rfl:=hn1 _ e1;have HE1:=Hm e1;have HB1:=Hm (Qa (Qe (Wac _ _)) hb1);refine hK.out _ _ (hst _ HB1.o) (fun hS1=>?_);clear hK K hb1 hn1 hf1 e1
   try simp only[Act.put,List.setIfInBounds_toArray,List.set_cons_zero,List.set_cons_succ]
   refine wpAnyH_ready (rs:=[7]) (by kernel_rfl) (by simp) (AllReadyH.cons rfl (fun K hK=>?_) AllReadyH.nil);go_simp
   refine (HN2 _ (H.o.dk.gl.below HB1.o)).out.mono ?_;rintro e w2 ⟨hb2,hn2,hf2⟩
   cases e2:Qx x2 with
   | none =>
    obtain rfl:=hf2 e2;have HW:Z8 R [s,x1,x2]=no 3 R:=by simp only[Z8,QG,HE1.o,e2]
    exact⟨rfl,by rw[HW];exact .no H.o (by decide) (Qa HB1.o hb2)⟩
   | some k2 =>
    obtain rfl:=hn2 _ e2;have HE2:=Hm e2;have HB2:=Hm (Qa HB1.o hb2);refine hK.out _ _ (hst _ HB2.o) (fun hS2=>?_);clear hK K hb2 hn2 hf2 e2
    try simp only[Act.put,List.setIfInBounds_toArray,List.set_cons_zero,List.set_cons_succ]
    refine wpAnyH_ready (rs:=[8]) (by kernel_rfl) (by simp) (AllReadyH.cons rfl (fun K hK=>?_) AllReadyH.nil);go_simp
    refine hK.out _ _ hS2 (fun _=>?_);clear hK K
    try simp only[Act.put,List.setIfInBounds_toArray,List.set_cons_zero,List.set_cons_succ]
    refine wpAnyH_ready (rs:=[9]) (by kernel_rfl) (by simp) (AllReadyH.cons rfl (fun K hK=>?_) AllReadyH.nil);go_simp
    refine hK.out _ _ hS2 (fun _=>?_);clear hK K
    try simp only[Act.put,List.setIfInBounds_toArray,List.set_cons_zero,List.set_cons_succ]
    refine wpAnyH_done (by kernel_rfl) ?_ _;clear hHeld hst hS1 hS2 c1 c2;have HW0:Hd (Z8 R [s,x1,x2]=Yg R s fun Q=>(if (Zb k1 k2 Q).1≠0 then no (Zb k1 k2 Q).1 R else (0,Zy [(Zb k1 k2 Q).2.1,(Zb k1 k2 Q).2.2],R))):=⟨by simp only[Z8,QG,HE1.o,HE2.o]⟩;have bc:=(HB2.o.cell (p:=⟨b,o,none⟩) HBC.o.1).trans HBC.o.2;have bl2:=Wal HBC.o.1 HB2.o.size
    by_cases hr:(spl (Qj s)).2=[]
    ·by_cases h8:8000<bl (spl (Qj s)).1
     ·have HR:=Hm (Wao hr h8);have HW:Hd (Z8 R [s,x1,x2]=no 12 R):=⟨by rw[HW0.o,Qjt hr h8]⟩;clear hr h8
      go_wp2_with (first
       | (go_at_call 149;refine (HDC _ (H.o.dk.gl.below HB2.o)).out.mono ?_;rintro e wd ⟨hbd,-,hd,-⟩;obtain rfl:=hd HR.o.1 HR.o.2;have HBD:=Hm (Qa HB2.o hbd);clear hbd hd))
      exact⟨rfl,by rw[HW.o];exact .no H.o (by decide) HBD.o⟩
     ·have HR:=Hm (Wao hr h8);have HW1:=Hm (HW0.o.trans (Qju hr h8));clear hr h8
      by_cases hz:(Zb k1 k2 (spl (Qj s)).1).1=0
      ·have HZ:=Hm hz;clear hz
       go_wp2_with (first
        | (go_at_call 149;refine (HDC _ (H.o.dk.gl.below HB2.o)).out.mono ?_;rintro e wd ⟨hbd,-,-,hd⟩;obtain⟨p,t,rfl,h1,h2,h3⟩:=hd HR.o.1 (by have:=HR.o.2;omega);have HX:=Hm (Wao h1 (Wao h2 h3));have HBD:=Hm (Qa HB2.o hbd);clear hbd hd h1 h2 h3)
        | (go_at_call 159;refine (Qiw (u:=k1) (at_:=k2) HX.o.1 HX.o.2.1).mono ?_;rintro e ws ⟨hbs,lv,cv,er,rfl,hsp⟩;rw[HX.o.2.2] at hsp;obtain⟨⟨kk,rfl,hk1,hk2⟩,hl1,hl2⟩:=hsp.bd (by have:=HR.o.2;omega);have hvv:=Qc6 hsp;have HBS:=Hm (Qa HBD.o hbs);obtain rfl:kk=0:=(by have:=HZ.o;rw[hvv] at this;exact this);rw[Qjv];have HVV:=Hm hvv;have HL:=Hm (Wao hl1 hl2);clear hbs hsp hvv hl1 hl2 hk1 hk2)
        | (go_at_call 49;refine (HM0 _).out.mono ?_;rintro e wm ⟨rfl,rfl⟩)
        | (go_at_call 142;refine (Qbe (l:=[lv,cv]) (n:=2) (by decide) (by decide) (Qwl HL.o.1 HL.o.2) (Sl.of_blk (Blk.new2 _ _ _ _) rfl (by unfold maxLen;omega)) (H.o.dk.gl.below (Qb (Qb HBS.o _) _))).mono ?_;rintro e wj ⟨rfl,hbj⟩;have HBJ:=Hm (Qa (Qb (Qb HBS.o _) _) hbj);clear hbj))
       go_ret;rw[HW1.o]
       try dsimp only
       rw[if_neg (by simpa using HZ.o),HVV.o];exact .yes (t:=Zy [lv,cv]) H.o HBJ.o
      ·have HZ:=Hm hz;clear hz
       go_wp2_with (first
        | (go_at_call 149;refine (HDC _ (H.o.dk.gl.below HB2.o)).out.mono ?_;rintro e wd ⟨hbd,-,-,hd⟩;obtain⟨p,t,rfl,h1,h2,h3⟩:=hd HR.o.1 (by have:=HR.o.2;omega);have HX:=Hm (Wao h1 (Wao h2 h3));have HBD:=Hm (Qa HB2.o hbd);clear hbd hd h1 h2 h3)
        | (go_at_call 159;refine (Qiw (u:=k1) (at_:=k2) HX.o.1 HX.o.2.1).mono ?_;rintro e ws ⟨hbs,lv,cv,er,rfl,hsp⟩;rw[HX.o.2.2] at hsp;obtain⟨⟨kk,rfl,hk1,hk2⟩,hl1,hl2⟩:=hsp.bd (by have:=HR.o.2;omega);have hvv:=Qc6 hsp;have HBS:=Hm (Qa HBD.o hbs);have hkk:kk≠0:=fun e=>HZ.o (by rw[hvv];exact e);have HKK:=Hm hkk;rw[ZN hkk];clear hkk;unfold errno;have HVV:=Hm hvv;clear hbs hsp hvv hl1 hl2 hk1 hk2)
        | (go_at_call 49;refine ((HM _ kk).out (H.o.dk.gl.below (Qb HBS.o _)).hdl).mono ?_;rintro e wm ⟨rfl,hbm⟩;have HBM:=Hm (Qa (Qb HBS.o _) hbm);clear hbm))
       exact⟨rfl,by rw[HW1.o];(try dsimp only);rw[if_pos HZ.o,HVV.o];exact .no H.o HKK.o HBM.o⟩
    ·have HR:=Hm hr;have HW:Hd (Z8 R [s,x1,x2]=no 3 R):=⟨by rw[HW0.o,Qjs hr]⟩;clear hr
     go_wp2_with (first
      | (go_at_call 149;refine (HDC _ (H.o.dk.gl.below HB2.o)).out.mono ?_;rintro e wd ⟨hbd,hd,-,-⟩;obtain rfl:=hd HR.o;have HBD:=Hm (Qa HB2.o hbd);clear hbd hd))
     exact⟨rfl,by rw[HW.o];exact .no H.o (by decide) HBD.o⟩
 ·have HW:Hd (Z8 R l=no 3 R):=⟨Qwj h1⟩;obtain⟨A,c,rfl⟩:=hv.form;have HWD:=fun W (hg:Hdl W)=>Hm (ZG (A:=A) (m:=l.length) (c:=c) (n:=3) (by decide) (by decide) hv.ln (by omega) hg)
  clear h hv h1;go_enter func107,ntmps107
  go_wp2_with (go_at_call 45;refine (HWD _ H.o.dk.gl.hdl).out.mono ?_;rintro e w1 ⟨rfl,hb1⟩;have HB1:=Hm hb1;clear hb1)
  exact⟨rfl,by rw[HW.o];exact .no H.o (by decide) HB1.o⟩
theorem Qwn (h:DkI X w D r R n)(hv:WrdI w r v l):Calls prog 101 #[.pointer (some ⟨D,0,none⟩),v] w (QS X D r (Zp R l) w):=by
 have H:=Hm h;have HM0:=fun W=>Hm (Yc W)
 have HM:=fun W e=>Hm (fun hg=>ZE (w:=W) (e:=e) hg)
 by_cases h1:l.length=4
 ·obtain⟨s,x1,x2,x3,rfl⟩:∃ s x1 x2 x3,l=[s,x1,x2,x3]:=by
   match l,h1 with
   | [s,x1,x2,x3],_=>exact⟨s,x1,x2,x3,rfl⟩
  have hs:=hv.sz s (by simp);have HN1:=fun W (hg:Glo W)=>Hm (ZU (hv.sz x1 (by simp)) hg)
  have HN2:=fun W (hg:Glo W)=>Hm (ZU (hv.sz x2 (by simp)) hg)
  have HN3:=fun W (hg:Glo W)=>Hm (ZU (hv.sz x3 (by simp)) hg)
  obtain⟨b,o,c,rfl,blt,bc,-⟩:=hv.at_ (k:=0) (s:=s) rfl;rw[Nat.add_zero] at bc;have c1:w.cell? ⟨b,o+1,none⟩=some (.string ⟨x1.toArray⟩):=by obtain⟨b',o',c',e,-,z,-⟩:=hv.at_ (k:=1) (s:=x1) rfl;cases e;exact z
  have c2:w.cell? ⟨b,o+2,none⟩=some (.string ⟨x2.toArray⟩):=by obtain⟨b',o',c',e,-,z,-⟩:=hv.at_ (k:=2) (s:=x2) rfl;cases e;exact z
  have c3:w.cell? ⟨b,o+3,none⟩=some (.string ⟨x3.toArray⟩):=by obtain⟨b',o',c',e,-,z,-⟩:=hv.at_ (k:=3) (s:=x3) rfl;cases e;exact z
  have HWD:=fun W=>Hm (ZF (A:=some ⟨b,o,none⟩) (m:=4) (c:=c) (n:=4) (by decide) (by decide) (by decide) rfl W)
  have hst:∀ W,Below w.heap.size w W→W.cell? ⟨b,o+1,none⟩=some (.string ⟨x1.toArray⟩)∧W.cell? ⟨b,o+2,none⟩=some (.string ⟨x2.toArray⟩)∧W.cell? ⟨b,o+3,none⟩=some (.string ⟨x3.toArray⟩):=fun W hb=>⟨(hb.cell (p:=⟨b,o+1,none⟩) blt).trans c1,(hb.cell (p:=⟨b,o+2,none⟩) blt).trans c2,(hb.cell (p:=⟨b,o+3,none⟩) blt).trans c3⟩
  have HS0:=Hm (hst w.drew (Qe (Wac _ _)));have HBC:=Hm (Wao blt bc);have HDC:=fun W (hg:Glo W)=>Hm (Qgz (s:=s) hs hg)
  clear h hv h1 hs bc;go_enter func101,ntmps101
  go_wp2_with (go_at_call 45;refine (HWD _).out.mono ?_;rintro e wz ⟨rfl,rfl⟩)
  refine wp_region_held_drew (S:=fun w'=>w'.cell? ⟨b,o+1,none⟩=some (.string ⟨x1.toArray⟩)∧w'.cell? ⟨b,o+2,none⟩=some (.string ⟨x2.toArray⟩)∧w'.cell? ⟨b,o+3,none⟩=some (.string ⟨x3.toArray⟩)) (by kernel_rfl) HS0.o (fun hHeld=>?_);refine wpAnyH_take (i:=0) (v:=.slice (some ⟨b,o,none⟩) 4 c) rfl (by kernel_rfl) (by kernel_rfl) (by kernel_rfl) (fun _ _ _ h=>h) (Or.inl ⟨by rfl,?_⟩) hHeld ?_
  ·intro w2 hSw;(try dsimp only at hSw);go_simp
  try simp only[Act.put,List.setIfInBounds_toArray,List.set_cons_zero,List.set_cons_succ]
  refine wpAnyH_take (i:=1) (v:=.pointer (some ⟨b,o+1,none⟩)) rfl (by kernel_rfl) (by kernel_rfl) (by kernel_rfl) (fun _ _ _ h=>h) (Or.inl ⟨by rfl,?_⟩) hHeld ?_
  ·intro w2 hSw;(try dsimp only at hSw);go_simp
  try simp only[Act.put,List.setIfInBounds_toArray,List.set_cons_zero,List.set_cons_succ]
  refine wpAnyH_take (i:=2) (v:=.string ⟨x1.toArray⟩) rfl (by kernel_rfl) (by kernel_rfl) (by kernel_rfl) (fun _ _ _ h=>h) (Or.inl ⟨by rfl,?_⟩) hHeld ?_
  ·intro w2 hSw;(try dsimp only at hSw);go_simp
  try simp only[Act.put,List.setIfInBounds_toArray,List.set_cons_zero,List.set_cons_succ]
  refine wpAnyH_take (i:=4) (v:=.slice (some ⟨b,o,none⟩) 4 c) rfl (by kernel_rfl) (by kernel_rfl) (by kernel_rfl) (fun _ _ _ h=>h) (Or.inl ⟨by rfl,?_⟩) hHeld ?_
  ·intro w2 hSw;(try dsimp only at hSw);go_simp
  try simp only[Act.put,List.setIfInBounds_toArray,List.set_cons_zero,List.set_cons_succ]
  refine wpAnyH_take (i:=5) (v:=.pointer (some ⟨b,o+2,none⟩)) rfl (by kernel_rfl) (by kernel_rfl) (by kernel_rfl) (fun _ _ _ h=>h) (Or.inl ⟨by rfl,?_⟩) hHeld ?_
  ·intro w2 hSw;(try dsimp only at hSw);go_simp
  try simp only[Act.put,List.setIfInBounds_toArray,List.set_cons_zero,List.set_cons_succ]
  refine wpAnyH_take (i:=6) (v:=.string ⟨x2.toArray⟩) rfl (by kernel_rfl) (by kernel_rfl) (by kernel_rfl) (fun _ _ _ h=>h) (Or.inl ⟨by rfl,?_⟩) hHeld ?_
  ·intro w2 hSw;(try dsimp only at hSw);go_simp
  try simp only[Act.put,List.setIfInBounds_toArray,List.set_cons_zero,List.set_cons_succ]
  refine wpAnyH_take (i:=8) (v:=.slice (some ⟨b,o,none⟩) 4 c) rfl (by kernel_rfl) (by kernel_rfl) (by kernel_rfl) (fun _ _ _ h=>h) (Or.inl ⟨by rfl,?_⟩) hHeld ?_
  ·intro w2 hSw;(try dsimp only at hSw);go_simp
  try simp only[Act.put,List.setIfInBounds_toArray,List.set_cons_zero,List.set_cons_succ]
  refine wpAnyH_take (i:=9) (v:=.pointer (some ⟨b,o+3,none⟩)) rfl (by kernel_rfl) (by kernel_rfl) (by kernel_rfl) (fun _ _ _ h=>h) (Or.inl ⟨by rfl,?_⟩) hHeld ?_
  ·intro w2 hSw;(try dsimp only at hSw);go_simp
  try simp only[Act.put,List.setIfInBounds_toArray,List.set_cons_zero,List.set_cons_succ]
  refine wpAnyH_take (i:=10) (v:=.string ⟨x3.toArray⟩) rfl (by kernel_rfl) (by kernel_rfl) (by kernel_rfl) (fun _ _ _ h=>h) (Or.inl ⟨by rfl,?_⟩) hHeld ?_
  ·intro w2 hSw;(try dsimp only at hSw);go_simp
  try simp only[Act.put,List.setIfInBounds_toArray,List.set_cons_zero,List.set_cons_succ]
  refine wpAnyH_ready (rs:=[3]) (by kernel_rfl) (by simp) (AllReadyH.cons rfl (fun K hK=>?_) AllReadyH.nil);go_simp
  refine (HN1 _ (H.o.dk.gl.below (Qe (Wac _ _)))).out.mono ?_;rintro e w1 ⟨hb1,hn1,hf1⟩
  cases e1:Qx x1 with
  | none =>
   obtain rfl:=hf1 e1;have HW:Zp R [s,x1,x2,x3]=no 3 R:=by simp only[Zp,QG,e1]
   exact⟨rfl,by rw[HW];exact .no H.o (by decide) (Qa (Qe (Wac _ _)) hb1)⟩
  | some k1 =>
   obtain rfl:=hn1 _ e1;have HE1:=Hm e1;have HB1:=Hm (Qa (Qe (Wac _ _)) hb1);refine hK.out _ _ (hst _ HB1.o) (fun hS1=>?_);clear hK K hb1 hn1 hf1 e1
   try simp only[Act.put,List.setIfInBounds_toArray,List.set_cons_zero,List.set_cons_succ]
   refine wpAnyH_ready (rs:=[7]) (by kernel_rfl) (by simp) (AllReadyH.cons rfl (fun K hK=>?_) AllReadyH.nil);go_simp
   refine (HN2 _ (H.o.dk.gl.below HB1.o)).out.mono ?_;rintro e w2 ⟨hb2,hn2,hf2⟩
   cases e2:Qx x2 with
   | none =>
    obtain rfl:=hf2 e2;have HW:Zp R [s,x1,x2,x3]=no 3 R:=by simp only[Zp,QG,HE1.o,e2]
    exact⟨rfl,by rw[HW];exact .no H.o (by decide) (Qa HB1.o hb2)⟩
   | some k2 =>
    obtain rfl:=hn2 _ e2;have HE2:=Hm e2;have HB2:=Hm (Qa HB1.o hb2);refine hK.out _ _ (hst _ HB2.o) (fun hS2=>?_);clear hK K hb2 hn2 hf2 e2
    try simp only[Act.put,List.setIfInBounds_toArray,List.set_cons_zero,List.set_cons_succ]
    refine wpAnyH_ready (rs:=[11]) (by kernel_rfl) (by simp) (AllReadyH.cons rfl (fun K hK=>?_) AllReadyH.nil);go_simp
    refine (HN3 _ (H.o.dk.gl.below HB2.o)).out.mono ?_;rintro e w3 ⟨hb3,hn3,hf3⟩
    cases e3:Qx x3 with
    | none =>
     obtain rfl:=hf3 e3;have HW:Zp R [s,x1,x2,x3]=no 3 R:=by simp only[Zp,QG,HE1.o,HE2.o,e3]
     exact⟨rfl,by rw[HW];exact .no H.o (by decide) (Qa HB2.o hb3)⟩
    | some k3 =>
     obtain rfl:=hn3 _ e3;have HE3:=Hm e3;have HB3:=Hm (Qa HB2.o hb3);refine hK.out _ _ (hst _ HB3.o) (fun hS3=>?_);clear hK K hb3 hn3 hf3 e3
     try simp only[Act.put,List.setIfInBounds_toArray,List.set_cons_zero,List.set_cons_succ]
     refine wpAnyH_ready (rs:=[12]) (by kernel_rfl) (by simp) (AllReadyH.cons rfl (fun K hK=>?_) AllReadyH.nil);go_simp
     refine hK.out _ _ hS3 (fun _=>?_);clear hK K
     try simp only[Act.put,List.setIfInBounds_toArray,List.set_cons_zero,List.set_cons_succ]
     refine wpAnyH_ready (rs:=[13]) (by kernel_rfl) (by simp) (AllReadyH.cons rfl (fun K hK=>?_) AllReadyH.nil);go_simp
     refine hK.out _ _ hS3 (fun _=>?_);clear hK K
     try simp only[Act.put,List.setIfInBounds_toArray,List.set_cons_zero,List.set_cons_succ]
     refine wpAnyH_ready (rs:=[14]) (by kernel_rfl) (by simp) (AllReadyH.cons rfl (fun K hK=>?_) AllReadyH.nil);go_simp
     refine hK.out _ _ hS3 (fun _=>?_);clear hK K
     try simp only[Act.put,List.setIfInBounds_toArray,List.set_cons_zero,List.set_cons_succ]
     refine wpAnyH_done (by kernel_rfl) ?_ _;clear hHeld hst hS1 hS2 hS3 c1 c2 c3;have HW0:Hd (Zp R [s,x1,x2,x3]=Yg R s fun Q=>(if (Z7 k1 k2 k3 Q).1≠0 then no (Z7 k1 k2 k3 Q).1 R else (0,Lib.itoa (Z7 k1 k2 k3 Q).2,R))):=⟨by simp only[Zp,QG,HE1.o,HE2.o,HE3.o]⟩;have bc:=(HB3.o.cell (p:=⟨b,o,none⟩) HBC.o.1).trans HBC.o.2;have bl2:=Wal HBC.o.1 HB3.o.size
     by_cases hr:(spl (Qj s)).2=[]
     ·by_cases h8:8000<bl (spl (Qj s)).1
      ·have HR:=Hm (Wao hr h8);have HW:Hd (Zp R [s,x1,x2,x3]=no 12 R):=⟨by rw[HW0.o,Qjt hr h8]⟩;clear hr h8
       go_wp2_with (first
        | (go_at_call 149;refine (HDC _ (H.o.dk.gl.below HB3.o)).out.mono ?_;rintro e wd ⟨hbd,-,hd,-⟩;obtain rfl:=hd HR.o.1 HR.o.2;have HBD:=Hm (Qa HB3.o hbd);clear hbd hd))
       exact⟨rfl,by rw[HW.o];exact .no H.o (by decide) HBD.o⟩
      ·have HR:=Hm (Wao hr h8);have HW1:=Hm (HW0.o.trans (Qju hr h8));clear hr h8
       by_cases hz:(Z7 k1 k2 k3 (spl (Qj s)).1).1=0
       ·have HZ:=Hm hz;clear hz
        go_wp2_with (first
         | (go_at_call 149;refine (HDC _ (H.o.dk.gl.below HB3.o)).out.mono ?_;rintro e wd ⟨hbd,-,-,hd⟩;obtain⟨p,t,rfl,h1,h2,h3⟩:=hd HR.o.1 (by have:=HR.o.2;omega);have HX:=Hm (Wao h1 (Wao h2 h3));have HBD:=Hm (Qa HB3.o hbd);clear hbd hd h1 h2 h3)
         | (go_at_call 148;refine (Qi4 (u:=k1) (n:=k2) (col:=k3) HX.o.1 HX.o.2.1).mono ?_;rintro e ws ⟨hbs,xv,er,rfl,hsp⟩;rw[HX.o.2.2] at hsp;obtain⟨⟨kk,rfl,hk1,hk2⟩,hl1⟩:=hsp.bd (by have:=HR.o.2;omega);have hvv:=Qc7 hsp;have HBS:=Hm (Qa HBD.o hbs);obtain rfl:kk=0:=(by have:=HZ.o;rw[hvv] at this;exact this);rw[Qjv];have HVV:=Hm hvv;have HL:=Hm hl1;clear hbs hsp hvv hl1 hk1 hk2)
         | (go_at_call 49;refine (HM0 _).out.mono ?_;rintro e wm ⟨rfl,rfl⟩)
         | (go_at_call 54;refine (Jl (n:=xv) (by have:=HL.o;omega) (by have:=HL.o;omega) (H.o.dk.gl.below HBS.o)).mono ?_;rintro e wj ⟨rfl,hbj⟩;have HBJ:=Hm (Qa HBS.o hbj);clear hbj))
        go_ret;rw[HW1.o]
        try dsimp only
        rw[if_neg (by simpa using HZ.o),HVV.o];exact .yes (t:=Lib.itoa xv) H.o HBJ.o
       ·have HZ:=Hm hz;clear hz
        go_wp2_with (first
         | (go_at_call 149;refine (HDC _ (H.o.dk.gl.below HB3.o)).out.mono ?_;rintro e wd ⟨hbd,-,-,hd⟩;obtain⟨p,t,rfl,h1,h2,h3⟩:=hd HR.o.1 (by have:=HR.o.2;omega);have HX:=Hm (Wao h1 (Wao h2 h3));have HBD:=Hm (Qa HB3.o hbd);clear hbd hd h1 h2 h3)
         | (go_at_call 148;refine (Qi4 (u:=k1) (n:=k2) (col:=k3) HX.o.1 HX.o.2.1).mono ?_;rintro e ws ⟨hbs,xv,er,rfl,hsp⟩;rw[HX.o.2.2] at hsp;obtain⟨⟨kk,rfl,hk1,hk2⟩,hl1⟩:=hsp.bd (by have:=HR.o.2;omega);have hvv:=Qc7 hsp;have HBS:=Hm (Qa HBD.o hbs);have hkk:kk≠0:=fun e=>HZ.o (by rw[hvv];exact e);have HKK:=Hm hkk;rw[ZN hkk];clear hkk;unfold errno;have HVV:=Hm hvv;clear hbs hsp hvv hl1 hk1 hk2)
         | (go_at_call 49;refine ((HM _ kk).out (H.o.dk.gl.below HBS.o).hdl).mono ?_;rintro e wm ⟨rfl,hbm⟩;have HBM:=Hm (Qa HBS.o hbm);clear hbm))
        exact⟨rfl,by rw[HW1.o];(try dsimp only);rw[if_pos HZ.o,HVV.o];exact .no H.o HKK.o HBM.o⟩
     ·have HR:=Hm hr;have HW:Hd (Zp R [s,x1,x2,x3]=no 3 R):=⟨by rw[HW0.o,Qjs hr]⟩;clear hr
      go_wp2_with (first
       | (go_at_call 149;refine (HDC _ (H.o.dk.gl.below HB3.o)).out.mono ?_;rintro e wd ⟨hbd,hd,-,-⟩;obtain rfl:=hd HR.o;have HBD:=Hm (Qa HB3.o hbd);clear hbd hd))
      exact⟨rfl,by rw[HW.o];exact .no H.o (by decide) HBD.o⟩
 ·have HW:Hd (Zp R l=no 3 R):=⟨Qwk h1⟩;obtain⟨A,c,rfl⟩:=hv.form;have HWD:=fun W (hg:Hdl W)=>Hm (ZG (A:=A) (m:=l.length) (c:=c) (n:=4) (by decide) (by decide) hv.ln (by omega) hg)
  clear h hv h1;go_enter func101,ntmps101
  go_wp2_with (go_at_call 45;refine (HWD _ H.o.dk.gl.hdl).out.mono ?_;rintro e w1 ⟨rfl,hb1⟩;have HB1:=Hm hb1;clear hb1)
  exact⟨rfl,by rw[HW.o];exact .no H.o (by decide) HB1.o⟩
end
end
section
open Go.RowKit Go.Sort
theorem Qif {a:List Bs}{us:List Int}{s:Bs}{n:Int}(h:QG a=some us)(hs:Qx s=some n):QG (a++[s])=some (us++[n]):=by
 induction a generalizing us with
 | nil=>simp[QG] at h;subst h;simp[QG,hs]
 | cons x a ih =>
  rw[Wap];unfold QG at h ⊢
  cases hx:Qx x with
  | none=>rw[hx] at h;cases h
  | some y =>
   rw[hx] at h;dsimp only at h ⊢
   cases hr:QG a with
   | none=>rw[hr] at h;cases h
   | some r =>
    rw[hr] at h
    cases h
    rw[ih hr]
    rfl
theorem Qig {a:List Bs}{s:Bs}{b:List Bs}(hs:Qx s=none):QG (a++s :: b)=none:=by
 induction a with
 | nil=>simp[QG,hs]
 | cons x a ih =>
  rw[Wap];unfold QG;rw[ih]
  cases Qx x<;>rfl
theorem WrdI.rest {w:World}{r:RP}{A:Option Addr}{c:Nat}{t:Bs}{l:List Bs}(h:WrdI w r (.slice A (l.length+1) c) (t :: l)):WrdI w r (sliced A 1 (l.length+1) c 1) l:=by
 have hs:=h.sl;have h1:=Sl.from_ (k:=1) hs (by simp);refine⟨?_,?_,fun s hs=>h.sz s (List.mem_cons_of_mem _ hs),fun ad n c' e=>?_⟩
 ·have e1:l.length+1-1=l.length:=by omega
  have e2:(svs (t :: l)).drop (1*1)=svs l:=by simp[svs]
  rw[e1,e2] at h1;exact h1
 ·have:=h.ln
  simp at this;omega
 ·obtain⟨ad0,e1,e2⟩:=Qgd e;rw[← e2];exact h.ap _ _ _ (by rw[e1])
theorem Qih:El prog 93 3 1 8:=El.mk' underlying93 (by kernel_rfl) (by decide)
section
variable {X:Nat→Prop}{w w':World}{D:Nat}{r:RP}{R:RM}{n:Nat}{l:List Bs}{v:Value}
theorem Qs3 (h:DkI X w D r R n)(hv:WrdI w r v l):Calls prog 16 #[.pointer (some ⟨D,0,none⟩),v] w (QS X D r (Zz R l) w):=by
 have H:=Hm h;have hp:=h.dk.ptr;have lt:=h.dk.bx.lt;have zf:=h.dk.bx.frozen 0;have HM0:=fun W=>Hm (Yc W)
 have HM:=fun W e=>Hm (fun hg=>ZE (w:=W) (e:=e) hg)
 have HMA:=fun W g p (ha:QU W g 3 p)=>Hm (fun hg=>Qce (w:=W) hg ha)
 cases l with
 | nil =>
  obtain⟨A,c,rfl⟩:=hv.form;have HWD:=fun W (hg:Hdl W)=>Hm (Qfp (w:=W) (A:=A) (c:=c) hg)
  clear h hv hp;go_enter func16,ntmps16
  go_wp2_with (go_at_call 45;refine (HWD _ H.o.dk.gl.hdl).out.mono ?_;rintro e w1 ⟨rfl,hb1⟩;have HB1:=Hm hb1;clear hb1)
  exact⟨rfl,QS.no H.o (by decide) HB1.o⟩
 | cons t l =>
  have hst:=hv.sz t (by simp);obtain⟨b,o,c,rfl,blt,bc,-⟩:=hv.at_ (k:=0) (s:=t) rfl;rw[Nat.add_zero] at bc;have hln:=hv.ln;rw[Wan] at hln hv ⊢;have HR:=Hm hv.rest;have HSZ:=Hm (fun s (hs:s∈l)=>hv.sz s (List.mem_cons_of_mem _ hs));have HWD:=fun W=>Hm (Qcf (A:=some ⟨b,o,none⟩) (m:=l.length+1) (c:=c) (by omega) (by omega) W)
  obtain⟨A2,c2,hsv⟩:=hv.rest.form
  have hrun:∀ W,(Instr.sliceAt 22 (.slice (some ⟨b,o,none⟩) (l.length+1) c) (some (.int .i64 1)) none none).run prog W=.ok (.slice A2 l.length c2) W:=fun W=>by
   have:=Jo XY (A:=some ⟨b,o,none⟩) (n:=l.length+1) (c:=c) (k:=1) (w:=W) (by omega)
   rw[hsv] at this;exact this
  rw[hsv] at HR;obtain⟨m,hm⟩:∃ m,m=l.length:=⟨_,rfl⟩;have hml:m≤1000000:=by omega
  rw[← hm] at hrun HR HWD hv hln ⊢;have HML:=Hm hm;have HPL:=fun W=>Hm (Ji hst W)
  have HBC:=Hm (Wao blt bc);clear h hsv hm;go_enter func16,ntmps16
  go_wp2_with (go_at_call 45;refine (HWD _).out.mono ?_;rintro e w1 ⟨rfl,rfl⟩)
  go_loopw [5,7,15] (fun v _ i wr=>∃ (k:Nat) (us:List Int),k≤m∧i=.int .i64 k∧Below w.heap.size w wr∧QG (l.take k)=some us∧us.length=k∧wr.ownsRow w.heap.size 3 1 v k (us.map fun u=>.int .i64 u)) (fun _ _ i _=>m-(intOf i).toNat)
  case atStart=>exact⟨0,[],by omega,rfl,Wac _ _,rfl,rfl,World.ownsRow_nil _ _ _ _⟩
  case round =>
   obtain⟨k,us,hk,rfl,hB,hN,hL,hO⟩:=hrel;have HB:=Hm hB;have HO:=Hm hO;have HN:=Hm (Wao hN hL);obtain⟨Av,cv,rfl⟩:=Qm hO;have hz:=hB.size
   by_cases hlt:k<m
   ·obtain⟨s,hs⟩:∃ s,l[k]?=some s:=⟨_,Waj (by rw[← HML.o];exact hlt)⟩;have HNM:=fun W (hg:Glo W)=>Hm (ZU (HSZ.o s (List.mem_of_getElem? hs)) hg)
    obtain⟨b2,o2,cc,hv2,hbb,c0,-⟩:=HR.o.at_ hs;rw[← HML.o] at hv2
    cases hv2
    have c0':=(hB.cell (p:=⟨b2,o2+k,none⟩) hbb).trans c0;have hbb':=Wal hbb hz;obtain⟨hkl,hse⟩:=Wai.1 hs;clear hB hO hN hL c0 hs
    cases hnm:Qx s with
    | none =>
     have HE:=Hm hnm
     have HX:Hd (Zz R (t :: l)=no 3 R):=⟨by
      have e:l=l.take k++l[k] :: l.drop (k+1):=by rw[← Wbl hkl,Wbh]
      have:QG l=none:=by rw[e];exact Qig (by rw[hse];exact hnm)
      simp only[Zz,this]⟩
     clear hnm hse;go_wp2_with (go_at_call 46;refine (HNM _ (H.o.dk.gl.below HB.o)).out.mono ?_;rintro e w2 ⟨hb2,-,h2⟩;obtain rfl:=h2 HE.o;have HB2:=Hm (Qa HB.o hb2);clear hb2 h2)
     exact⟨rfl,by rw[HX.o];exact .no H.o (by decide) HB2.o⟩
    | some x =>
     have HE:=Hm hnm;have HX:Hd (l.take k++[s]=l.take (k+1)):=⟨by rw[Wag hkl,hse]⟩;clear hnm hse
     go_wp2_with (first
      | (go_at_call 46;refine (HNM _ (H.o.dk.gl.below HB.o)).out.mono ?_;rintro e w2 ⟨hb2,h2,-⟩;obtain rfl:=h2 _ HE.o;have HB2:=Hm hb2;have ho2:=Q9 HO.o (Only.of_below (S:=fun _=>False) hb2) (fun _ _ e=>e);have HO2:=Hm ho2;clear hb2 h2 ho2)
      | (at_builtin;refine QE Qih #[.int .i64 x] HO2.o rfl rfl rfl rfl rfl rfl (YI rfl) (by unfold maxLen;omega) (by omega) (by have:=HB2.o.size;omega) ?_;intro v3 w3 hown3 hbel3 _ _;have HO3:=Hm hown3;have HB3:=Hm hbel3;obtain⟨A3,k3,rfl⟩:=Qm hown3;clear hown3 hbel3))
     go_roundw
     case rel =>
      refine⟨k+1,us++[x],by omega,by go_num,(HB.o.trans (HB2.o.mono hz)).trans HB3.o,?_,by simp[HN.o.2],?_⟩
      ·rw[← HX.o];exact Qif HN.o.1 HE.o
      ·rw[Wbo];exact HO3.o
     case measure=>simp[intOf];omega
   ·obtain rfl:k=m:=by omega
    have hnw:QG l=some us:=by rw[HML.o,Wbe] at hN;exact hN
    have HUS:=Hm (Sl.of_own hO);have hul:=hL;have HNR:=fun W (hb:Below wr.heap.size wr W)=>Hm (Qgo (G:=fun j=>X j∨j=D) (w:=W) (fun j e=>e.elim (fun e=>Wal (H.o.dk.xlt e) (Wbf hz hb.size)) (fun e=>by rw[e];exact Wal lt (Wbf hz hb.size))) (YD (Qj t)) (Qai hst) ⟨(H.o.dk.gl.below (Qa HB.o hb)).hdl,fun e=>e.elim (fun e=>by have:=H.o.dk.lo _ (.inr (.inr e));omega) (fun e=>by have:=H.o.dk.lo D (.inl rfl);have e2:0=D:=e;omega)⟩ (HUS.o.below hb))
    have bc2:=(hB.cell (p:=⟨b,o,none⟩) HBC.o.1).trans HBC.o.2;have bl2:=Wal HBC.o.1 hz;clear hB hO hN
    by_cases hr:(spl (Qj t)).2=[]
    ·by_cases h2:2000<bl (spl (Qj t)).1
     ·have HX:Hd (Zz R (t :: l)=no 12 R):=⟨by simp only[Zz,hnw];rw[if_neg (by simpa using hr),if_pos h2]⟩;have HC:=Hm (Wao hr h2);clear hr h2 hnw
      go_wp2_with (first
       | (go_at_call 48;refine (HPL _).out.mono ?_;rintro e w2 ⟨rfl,hb2⟩;have HB2:=Hm hb2;clear hb2)
       | (go_at_call 47;refine (HNR _ HB2.o).out.mono ?_;rintro e w3 ⟨hb3,-,h3,-⟩;obtain rfl:=h3 HC.o.1 HC.o.2;unfold errno;have HB3:=Hm (Qa (Qa HB.o HB2.o) hb3);clear hb3 h3)
       | (go_at_call 49;refine ((HM _ 12).out (H.o.dk.gl.below HB3.o).hdl).mono ?_;rintro e w4 ⟨rfl,hb4⟩;have HB4:=Hm (Qa HB3.o hb4);clear hb4))
      exact⟨rfl,by rw[HX.o];exact .no H.o (by decide) HB4.o⟩
     ·by_cases h6:6<us.length
      ·have HX:Hd (Zz R (t :: l)=no 4 R):=⟨by simp only[Zz,hnw];rw[if_neg (by simpa using hr),if_neg h2,if_pos h6]⟩;have HC:=Hm (Wao hr (Wao h2 h6));clear hr h2 h6 hnw
       go_wp2_with (first
        | (go_at_call 48;refine (HPL _).out.mono ?_;rintro e w2 ⟨rfl,hb2⟩;have HB2:=Hm hb2;clear hb2)
        | (go_at_call 47;refine (HNR _ HB2.o).out.mono ?_;rintro e w3 ⟨hb3,-,-,h3,-⟩;obtain rfl:=h3 HC.o.1 (by have:=HC.o.2.1;omega) HC.o.2.2;unfold errno;have HB3:=Hm (Qa (Qa HB.o HB2.o) hb3);clear hb3 h3)
        | (go_at_call 49;refine ((HM _ 4).out (H.o.dk.gl.below HB3.o).hdl).mono ?_;rintro e w4 ⟨rfl,hb4⟩;have HB4:=Hm (Qa HB3.o hb4);clear hb4))
       exact⟨rfl,by rw[HX.o];exact .no H.o (by decide) HB4.o⟩
      ·by_cases h7:∃ u∈us,¬ (1≤u∧u≤3)
       ·have HX:Hd (Zz R (t :: l)=no 1 R):=⟨by simp only[Zz,hnw];rw[if_neg (by simpa using hr),if_neg h2,if_neg h6,if_pos h7]⟩;have HC:=Hm (Wao hr (Wao h2 (Wao h6 h7)));clear hr h2 h6 h7 hnw
        go_wp2_with (first
         | (go_at_call 48;refine (HPL _).out.mono ?_;rintro e w2 ⟨rfl,hb2⟩;have HB2:=Hm hb2;clear hb2)
         | (go_at_call 47;refine (HNR _ HB2.o).out.mono ?_;rintro e w3 ⟨hb3,-,-,-,h3,-⟩;obtain rfl:=h3 HC.o.1 (by have:=HC.o.2.1;omega) (by have:=HC.o.2.2.1;omega) HC.o.2.2.2;unfold errno;have HB3:=Hm (Qa (Qa HB.o HB2.o) hb3);clear hb3 h3)
         | (go_at_call 49;refine ((HM _ 1).out (H.o.dk.gl.below HB3.o).hdl).mono ?_;rintro e w4 ⟨rfl,hb4⟩;have HB4:=Hm (Qa HB3.o hb4);clear hb4))
        exact⟨rfl,by rw[HX.o];exact .no H.o (by decide) HB4.o⟩
       ·have HX:Hd (Zz R (t :: l)=(0,[98,101,103,105,110],RM.new (spl (Qj t)).1 us)):=⟨by simp only[Zz,hnw];rw[if_neg (by simpa using hr),if_neg h2,if_neg h6,if_neg h7]⟩;have HC:Hd ((spl (Qj t)).2=[]∧bl (spl (Qj t)).1≤2000∧us.length≤6∧∀ u∈us,1≤u∧u≤3):=⟨hr,by omega,by omega,fun u hu=>Classical.not_not.1 (fun hh=>h7 ⟨u,hu,hh⟩)⟩;clear hr h2 h6 h7 hnw
        go_wp2_with (first
         | (go_at_call 48;refine (HPL _).out.mono ?_;rintro e w2 ⟨rfl,hb2⟩;have HB2:=Hm hb2;clear hb2)
         | (go_at_call 47;refine (HNR _ HB2.o).out.mono ?_;rintro e w3 ⟨hb3,-,-,-,-,h3⟩;obtain⟨r',rfl,hF3,hR3⟩:=h3 HC.o.1 HC.o.2.1 HC.o.2.2.1 HC.o.2.2.2;have HB3:=Hm (Qa (Qa HB.o HB2.o) hb3);have HR3:=Hm (Wao hF3 hR3);have hk3:=(H.o.dk.below HB3.o).bx;have y0:=hk3.cell 0;simp only[Wab,Waa] at y0;have yf:=hk3.frozen 0;have yl:=hk3.lt;clear hb3 h3 hF3 hR3 hk3)
         | (go_at_call 49;refine (HM0 _).out.mono ?_;rintro e w4 ⟨rfl,rfl⟩))
        go_ret;rw[HX.o];have hsz:=HB.o.size;have hsz2:=HB2.o.size
        exact⟨fun _=>rfl,fun e=>absurd rfl e,H.o.dk.fresh HB3.o (fun j hj=>Wbf (Wbf hsz hsz2) (HR3.o.1 j hj)) HR3.o.2 rfl⟩
    ·have HX:Hd (Zz R (t :: l)=no 3 R):=⟨by simp only[Zz,hnw];rw[if_pos hr]⟩;have HC:=Hm hr;clear hr hnw
     go_wp2_with (first
      | (go_at_call 48;refine (HPL _).out.mono ?_;rintro e w2 ⟨rfl,hb2⟩;have HB2:=Hm hb2;clear hb2)
      | (go_at_call 47;refine (HNR _ HB2.o).out.mono ?_;rintro e w3 ⟨hb3,h3,-⟩;obtain⟨g,rfl,hat⟩:=h3 HC.o;have HB3:=Hm (Qa (Qa HB.o HB2.o) hb3);have HAT:=Hm hat;clear hb3 h3 hat)
      | (go_at_call 49;refine ((HMA _ g _ HAT.o).out (H.o.dk.gl.below HB3.o).hdl).mono ?_;rintro e w4 ⟨rfl,hb4⟩;have HB4:=Hm (Qa HB3.o hb4);clear hb4))
     exact⟨rfl,by rw[HX.o];exact .no H.o (by decide) HB4.o⟩
end
end
section
open Go.RowKit Go.Sort
theorem Qqm {s:Bs}(h:0<s.length):YE s=if s[0]=107 then (match Qx s.tail with | none=>none | some n=>some ⟨n,0,[]⟩)
  else if s[0]=100 then (match Qx s.tail with | none=>none | some n=>some ⟨0,n,[]⟩)
  else if s[0]=112 then some ⟨0,0,Qj s.tail⟩ else none:=by
 cases s with
 | nil=>simp at h
 | cons c t=>rfl
theorem Qc2 {a:List Bs}{ps:List PT}{s:Bs}{p:PT}(h:opW a=some ps)(hs:YE s=some p):opW (a++[s])=some (ps++[p]):=by
 induction a generalizing ps with
 | nil=>simp[opW] at h;subst h;simp[opW,hs]
 | cons x a ih =>
  rw[Wap];unfold opW at h ⊢
  cases hx:YE x with
  | none=>rw[hx] at h;cases h
  | some y =>
   rw[hx] at h;dsimp only at h ⊢
   cases hr:opW a with
   | none=>rw[hr] at h;cases h
   | some r =>
    rw[hr] at h
    cases h
    rw[ih hr]
    rfl
theorem Qqn {a:List Bs}{s:Bs}{b:List Bs}(hs:YE s=none):opW (a++s :: b)=none:=by
 induction a with
 | nil=>simp[opW,hs]
 | cons x a ih =>
  rw[Wap];unfold opW;rw[ih]
  cases YE x<;>rfl
theorem XT (x c:UInt8)(h:x≠c):((x.toNat:Int) == (c.toNat:Int))=false:=by
 rw[Waf];intro e;exact h (UInt8.toNat_inj.1 (by omega))
theorem Qc3 (p:PT):∀ u∈(#[Value.int .i64 p.keep,.int .i64 p.drop,.string ⟨p.put.toArray⟩]:Array Value).toList,u.oneCell'=true:=QP rfl rfl rfl
section
variable {X:Nat→Prop}{w w':World}{D:Nat}{r:RP}{R:RM}{n:Nat}{l:List Bs}{v:Value}
theorem Qqo {F:Nat→Prop}{N B:Int}{k:Nat}{C:CV}{c:CP}{l:List PT}{v:Value}(h:RmR w F r R)(hb:RMb N B R)(hN:N≤1000000)(hC:R.cl[k]?=some C)(hc:r.cs[k]?=some c)(hx:OpO F w v l)(hn:l.length≤100000) :
  Calls prog 145 #[.pointer (some ⟨c.a,0,none⟩),v] w fun e w'=>e=.returned (Q4 (C.edit l).1)∧RmS F r (R.edit k l) w w':=by
 refine (Qu1 (h.cli k c C hc hC) h.hd (hb.ok.cl k C hC).ok hN hx hn).mono ?_;intro e w' hp;have e2:R.edit k l=R.setc k (C.edit l).2:=by unfold RM.edit;rw[hC]
 rw[e2];exact h.client hc hC hp
attribute [local go_sem] Qe6 Xf
theorem Qqp (h:DkI X w D r R n)(hv:WrdI w r v l)(hne:∀ s∈l,s≠[])(hll:l.length≤100000):Calls prog 97 #[.pointer (some ⟨D,0,none⟩),v] w (QS X D r (Yf R l) w):=by
 have H:=Hm h;have HM0:=fun W=>Hm (Yc W)
 have HM:=fun W e=>Hm (fun hg=>ZE (w:=W) (e:=e) hg)
 cases l with
 | nil =>
  obtain⟨A,c,rfl⟩:=hv.form;have HWD:=fun W (hg:Hdl W)=>Hm (Qfp (w:=W) (A:=A) (c:=c) hg)
  clear h hv;go_enter func97,ntmps97
  go_wp2_with (go_at_call 45;refine (HWD _ H.o.dk.gl.hdl).out.mono ?_;rintro e w1 ⟨rfl,hb1⟩;have HB1:=Hm hb1;clear hb1)
  exact⟨rfl,QS.no H.o (by decide) HB1.o⟩
 | cons t l =>
  have hst:=hv.sz t (by simp);obtain⟨b,o,c,rfl,blt,bc,-⟩:=hv.at_ (k:=0) (s:=t) rfl;rw[Nat.add_zero] at bc;have hln:=hv.ln;rw[Wan] at hln hv hll ⊢;have HR:=Hm hv.rest;have HSZ:=Hm (fun s (hs:s∈l)=>Wao (hv.sz s (List.mem_cons_of_mem _ hs)) (Wax.2 (hne s (List.mem_cons_of_mem _ hs))));have HWD:=fun W=>Hm (Qcf (A:=some ⟨b,o,none⟩) (m:=l.length+1) (c:=c) (by omega) (by omega) W)
  obtain⟨A2,c2,hsv⟩:=hv.rest.form
  have hrun:∀ W,(Instr.sliceAt 22 (.slice (some ⟨b,o,none⟩) (l.length+1) c) (some (.int .i64 1)) none none).run prog W=.ok (.slice A2 l.length c2) W:=fun W=>by
   have:=Jo XY (A:=some ⟨b,o,none⟩) (n:=l.length+1) (c:=c) (k:=1) (w:=W) (by omega)
   rw[hsv] at this;exact this
  rw[hsv] at HR;obtain⟨m,hm⟩:∃ m,m=l.length:=⟨_,rfl⟩;have hml:m≤100000:=by omega
  rw[← hm] at hrun HR HWD hv hln ⊢;have HML:=Hm hm;have HBC:=Hm (Wao blt bc);clear h hsv hm hne hll;go_enter func97,ntmps97
  go_wp2_with (go_at_call 45;refine (HWD _).out.mono ?_;rintro e w1 ⟨rfl,rfl⟩)
  go_loopw [5,7,13] (fun v _ i wr=>∃ (k:Nat) (ps:List PT),k≤m∧i=.int .i64 k∧Below w.heap.size w wr∧opW (l.take k)=some ps∧ps.length=k∧wr.ownsRow w.heap.size 117 3 v k (opv ps)) (fun _ _ i _=>m-(intOf i).toNat)
  case atStart=>exact⟨0,[],by omega,rfl,Wac _ _,rfl,rfl,World.ownsRow_nil _ _ _ _⟩
  case round =>
   obtain⟨k,ps,hk,rfl,hB,hN,hL,hO⟩:=hrel;have HB:=Hm hB;have HO:=Hm hO;have HN:=Hm (Wao hN hL);obtain⟨Av,cv,rfl⟩:=Qm hO;have hz:=hB.size
   by_cases hlt:k<m
   ·obtain⟨s,hs⟩:∃ s,l[k]?=some s:=⟨_,Waj (by rw[← HML.o];exact hlt)⟩;obtain⟨hsz,hs0⟩:=HSZ.o s (List.mem_of_getElem? hs);have htl:s.tail.length≤1000000:=by rw[List.length_tail];omega
    have HNM:=fun W (hg:Glo W)=>Hm (ZU htl hg)
    have HPL:=fun W=>Hm (Ji htl W)
    obtain⟨b2,o2,cc,hv2,hbb,c0,-⟩:=HR.o.at_ hs;rw[← HML.o] at hv2
    cases hv2
    have c0':=(hB.cell (p:=⟨b2,o2+k,none⟩) hbb).trans c0;have hbb':=Wal hbb hz;obtain⟨hkl,hse⟩:=Wai.1 hs;have HX:Hd (l.take k++[s]=l.take (k+1)):=⟨by rw[Wag hkl,hse]⟩
    have HBAD:Hd (YE s=none→Yf R (t :: l)=no 3 R):=⟨fun hp=>by
     have e:l=l.take k++l[k] :: l.drop (k+1):=by rw[← Wbl hkl,Wbh]
     have:opW l=none:=by rw[e];exact Qqn (by rw[hse];exact hp)
     simp only[Yf,this]⟩
    have HPE:=Hm (Qqm hs0);clear hB hO hN hL c0 hs hse
    by_cases h107:s[0]=107
    ·have hc:=h107;have q107:(((s[0]).toNat:Int) == 107)=true:=by rw[hc];rfl
     cases hnm:Qx s.tail with
     | none =>
      have HE:=Hm hnm;have HP:=Hm (HBAD.o (by rw[HPE.o,if_pos hc,hnm]));clear hnm hc h107;go_wp2_with (go_at_call 46;refine (HNM _ (H.o.dk.gl.below HB.o)).out.mono ?_;rintro e w2 ⟨hb2,-,h2⟩;obtain rfl:=h2 HE.o;have HB2:=Hm (Qa HB.o hb2);clear hb2 h2)
      exact⟨rfl,by rw[HP.o];exact .no H.o (by decide) HB2.o⟩
     | some x =>
      have HE:=Hm hnm;have HP:Hd (YE s=some ⟨x,0,[]⟩):=⟨by rw[HPE.o,if_pos hc,hnm]⟩;clear hnm hc h107
      go_wp2_with (first
       | (go_at_call 46;refine (HNM _ (H.o.dk.gl.below HB.o)).out.mono ?_;rintro e w2 ⟨hb2,h2,-⟩;obtain rfl:=h2 _ HE.o;have HB2:=Hm hb2;have ho2:=Q9 HO.o (Only.of_below (S:=fun _=>False) hb2) (fun _ _ e=>e);have HO2:=Hm ho2;clear hb2 h2 ho2)
       | (at_builtin;refine QE QK #[.int .i64 x,.int .i64 0,.string ⟨#[]⟩] HO2.o rfl rfl rfl rfl rfl rfl (Qc3 ⟨x,0,[]⟩) (by unfold maxLen;omega) (by omega) (by have:=HB2.o.size;omega) ?_;intro v3 w3 hown3 hbel3 _ _;have HO3:=Hm hown3;have HB3:=Hm hbel3;obtain⟨A3,k3,rfl⟩:=Qm hown3;clear hown3 hbel3))
      go_roundw
      case rel =>
       refine⟨k+1,ps++[⟨x,0,[]⟩],by omega,by go_num,(HB.o.trans (HB2.o.mono hz)).trans HB3.o,?_,by simp[HN.o.2],?_⟩
       ·rw[← HX.o];exact Qc2 HN.o.1 HP.o
       ·have e:opv (ps++[⟨x,0,[]⟩])=opv ps++[.int .i64 (x),.int .i64 (0),.string ⟨#[]⟩]:=by unfold opv;simp
        rw[e];exact HO3.o
      case measure=>simp[intOf];omega
    by_cases h100:s[0]=100
    ·have hc:=h100;have q107:(((s[0]).toNat:Int) == 107)=false:=XT s[0] 107 h107;have q100:(((s[0]).toNat:Int) == 100)=true:=by rw[hc];rfl
     cases hnm:Qx s.tail with
     | none =>
      have HE:=Hm hnm;have HP:=Hm (HBAD.o (by rw[HPE.o,if_neg h107,if_pos hc,hnm]));clear hnm hc h107 h100;go_wp2_with (go_at_call 46;refine (HNM _ (H.o.dk.gl.below HB.o)).out.mono ?_;rintro e w2 ⟨hb2,-,h2⟩;obtain rfl:=h2 HE.o;have HB2:=Hm (Qa HB.o hb2);clear hb2 h2)
      exact⟨rfl,by rw[HP.o];exact .no H.o (by decide) HB2.o⟩
     | some x =>
      have HE:=Hm hnm;have HP:Hd (YE s=some ⟨0,x,[]⟩):=⟨by rw[HPE.o,if_neg h107,if_pos hc,hnm]⟩;clear hnm hc h107 h100
      go_wp2_with (first
       | (go_at_call 46;refine (HNM _ (H.o.dk.gl.below HB.o)).out.mono ?_;rintro e w2 ⟨hb2,h2,-⟩;obtain rfl:=h2 _ HE.o;have HB2:=Hm hb2;have ho2:=Q9 HO.o (Only.of_below (S:=fun _=>False) hb2) (fun _ _ e=>e);have HO2:=Hm ho2;clear hb2 h2 ho2)
       | (at_builtin;refine QE QK #[.int .i64 0,.int .i64 x,.string ⟨#[]⟩] HO2.o rfl rfl rfl rfl rfl rfl (Qc3 ⟨0,x,[]⟩) (by unfold maxLen;omega) (by omega) (by have:=HB2.o.size;omega) ?_;intro v3 w3 hown3 hbel3 _ _;have HO3:=Hm hown3;have HB3:=Hm hbel3;obtain⟨A3,k3,rfl⟩:=Qm hown3;clear hown3 hbel3))
      go_roundw
      case rel =>
       refine⟨k+1,ps++[⟨0,x,[]⟩],by omega,by go_num,(HB.o.trans (HB2.o.mono hz)).trans HB3.o,?_,by simp[HN.o.2],?_⟩
       ·rw[← HX.o];exact Qc2 HN.o.1 HP.o
       ·have e:opv (ps++[⟨0,x,[]⟩])=opv ps++[.int .i64 (0),.int .i64 (x),.string ⟨#[]⟩]:=by unfold opv;simp
        rw[e];exact HO3.o
      case measure=>simp[intOf];omega
    by_cases h112:s[0]=112
    ·have hc:=h112;have q107:(((s[0]).toNat:Int) == 107)=false:=XT s[0] 107 h107;have q100:(((s[0]).toNat:Int) == 100)=false:=XT s[0] 100 h100;have q112:(((s[0]).toNat:Int) == 112)=true:=by rw[hc];rfl
     have HP:Hd (YE s=some ⟨0,0,Qj s.tail⟩):=⟨by rw[HPE.o,if_neg h107,if_neg h100,if_pos hc]⟩;clear hc h107 h100 h112
     go_wp2_with (first
      | (go_at_call 48;refine (HPL _).out.mono ?_;rintro e w2 ⟨rfl,hb2⟩;have HB2:=Hm hb2;have ho2:=Q9 HO.o (Only.of_below (S:=fun _=>False) hb2) (fun _ _ e=>e);have HO2:=Hm ho2;clear hb2 ho2)
      | (at_builtin;refine QE QK #[.int .i64 0,.int .i64 0,.string ⟨(Qj s.tail).toArray⟩] HO2.o rfl rfl rfl rfl rfl rfl (Qc3 ⟨0,0,Qj s.tail⟩) (by unfold maxLen;omega) (by omega) (by have:=HB2.o.size;omega) ?_;intro v3 w3 hown3 hbel3 _ _;have HO3:=Hm hown3;have HB3:=Hm hbel3;obtain⟨A3,k3,rfl⟩:=Qm hown3;clear hown3 hbel3))
     go_roundw
     case rel =>
      refine⟨k+1,ps++[⟨0,0,Qj s.tail⟩],by omega,by go_num,(HB.o.trans (HB2.o.mono hz)).trans HB3.o,?_,by simp[HN.o.2],?_⟩
      ·rw[← HX.o];exact Qc2 HN.o.1 HP.o
      ·have e:opv (ps++[⟨0,0,Qj s.tail⟩])=opv ps++[.int .i64 (0),.int .i64 (0),.string ⟨(Qj s.tail).toArray⟩]:=by unfold opv;simp
       rw[e];exact HO3.o
     case measure=>simp[intOf];omega
    have q107:(((s[0]).toNat:Int) == 107)=false:=XT s[0] 107 h107;have q100:(((s[0]).toNat:Int) == 100)=false:=XT s[0] 100 h100;have q112:(((s[0]).toNat:Int) == 112)=false:=XT s[0] 112 h112;have HP:=Hm (HBAD.o (by rw[HPE.o,if_neg h107,if_neg h100,if_neg h112]));clear h107 h100 h112;go_wp2_with (go_at_call 49;refine ((HM _ 3).out (H.o.dk.gl.below HB.o).hdl).mono ?_;rintro e w2 ⟨rfl,hb2⟩;have HB2:=Hm (Qa HB.o hb2);clear hb2)
    exact⟨rfl,by rw[HP.o];exact .no H.o (by decide) HB2.o⟩
   ·obtain rfl:k=m:=by omega
    have hnw:opW l=some ps:=by rw[HML.o,Wbe] at hN;exact hN
    have hul:=hL;have bc2:=(hB.cell (p:=⟨b,o,none⟩) HBC.o.1).trans HBC.o.2;have bl2:=Wal HBC.o.1 hz;have HCL:=Hm (Qa4 (s:=t) (H.o.below hB) hst)
    have hopo:OpO (DF X r) wr (.slice Av k cv) ps:=⟨by rw[hul];exact Sl.of_own hO,fun ad n' c' e hn' hF=>by
     have e2:(Value.slice Av k cv).ownBlock=some ad.block:=by cases e;rfl
     have:=(hO.lt _ e2).1
     have:=H.o.dk.rm.flt _ hF
     omega⟩
    have HOP:=Hm hopo;rcases Qa8 (R:=R) t (fun k C=>((C.edit ps).1,(if (C.edit ps).1=0 then [101,100,105,116] else []),R.edit k ps)) with ⟨hk1,hw⟩ | ⟨k1,hk1,hin,hw⟩ | ⟨i,C,hk1,hC,hw⟩
    ·have HX:Hd (Yf R (t :: l)=no 3 R):=⟨by simp only[Yf,hnw];exact hw⟩;have HK:=Hm hk1;clear hB hO hN hL hnw hk1 hw hul hopo;go_wp2_with (go_at_call 144;refine HCL.o.mono ?_;rintro e w2 ⟨hb2,h2,-,-⟩;obtain rfl:=h2 HK.o;have HB2:=Hm (Qa HB.o hb2);clear hb2 h2)
     exact⟨rfl,by rw[HX.o];exact .no H.o (by decide) HB2.o⟩
    ·have HX:Hd (Yf R (t :: l)=no 2 R):=⟨by simp only[Yf,hnw];exact hw⟩;have HK:=Hm (Wao hk1 hin);clear hB hO hN hL hnw hk1 hw hin hul hopo;go_wp2_with (go_at_call 144;refine HCL.o.mono ?_;rintro e w2 ⟨hb2,-,h2,-⟩;obtain rfl:=h2 _ HK.o.1 HK.o.2;have HB2:=Hm (Qa HB.o hb2);clear hb2 h2)
     exact⟨rfl,by rw[HX.o];exact .no H.o (by decide) HB2.o⟩
    ·have HX:Hd (Yf R (t :: l)=((C.edit ps).1,(if (C.edit ps).1=0 then [101,100,105,116] else []),R.edit i ps)):=⟨by simp only[Yf,hnw];exact hw⟩;obtain⟨c1,hc1,-⟩:=H.o.client hC;have HK:=Hm (Wao hk1 hc1);have HED:=fun W (hb:Below wr.heap.size wr W)=>Hm (Qqo ((H.o.dk.rm.below (Qa HB.o hb))) H.o.ok.b (by have:=H.o.nn;omega) hC hc1 (HOP.o.below hb (Grow.refl _ _)) (by rw[hul];exact hml))
     clear hB hO hN hL hnw hk1 hw hC hc1 hul hopo
     by_cases he:(C.edit ps).1=0
     ·have HE:=Hm he;rw[he,YC] at HED;clear he
      go_wp2_with (first
       | (go_at_call 144;refine HCL.o.mono ?_;rintro e w2 ⟨hb2,-,-,h2⟩;obtain rfl:=h2 _ HK.o.1 _ HK.o.2;have HB2:=Hm hb2;clear hb2 h2)
       | (go_at_call 145;refine (HED _ HB2.o).out.mono ?_;rintro e w3 ⟨rfl,h3⟩;have H3:=Hm h3;clear h3)
       | (go_at_call 49;refine (HM0 _).out.mono ?_;rintro e w4 ⟨rfl,rfl⟩))
      go_ret;have hbx:=Qa HB.o HB2.o;rw[HX.o];refine⟨fun _=>?_,fun e=>absurd HE.o e,DkS.from_below hbx ((H.o.dk.below hbx).step H3.o)⟩;rw[if_pos HE.o]
      rfl
     ·have HE:=Hm he;have hq:Q4 (C.edit ps).1=.iface 31 (.int .i64 (C.edit ps).1):=if_neg he;rw[hq] at HED;clear he hq
      go_wp2_with (first
       | (go_at_call 144;refine HCL.o.mono ?_;rintro e w2 ⟨hb2,-,-,h2⟩;obtain rfl:=h2 _ HK.o.1 _ HK.o.2;have HB2:=Hm hb2;clear hb2 h2)
       | (go_at_call 145;refine (HED _ HB2.o).out.mono ?_;rintro e w3 ⟨rfl,h3⟩;have H3:=Hm h3;have hg3:Hdl w3:=(have hbx:=Qa HB.o HB2.o;by obtain⟨r',hd',-,-⟩:=(H.o.dk.below hbx).step h3;exact hd'.gl.hdl);have HG3:=Hm hg3;clear h3 hg3)
       | (go_at_call 49;refine ((HM _ _).out HG3.o).mono ?_;rintro e w4 ⟨rfl,hb4⟩;have HB4:=Hm hb4;clear hb4))
      have hbx:=Qa HB.o HB2.o
      exact⟨rfl,by rw[HX.o];exact⟨fun e=>absurd e HE.o,fun _=>rfl,DkS.from_below hbx (((H.o.dk.below hbx).step H3.o).then_below HB4.o)⟩⟩
end
end
section
open Go.RowKit Go.Sort
section
open Go.Instr
variable {P:Program}
theorem Qbn {K:TypeId}(hK:P.underlying K=some .string)(b:Bool)(n:ByteArray)(w:World):(checkKey b 10000 K (.string n)).run P w=.ok () w:=by
 show (checkKey b (9999+1) K (.string n)).run P w=.ok () w
 unfold checkKey;simp only[Sem.run_bind,run_underlying hK,Result.andThen]
 rfl
theorem Qbo {K:TypeId}(hK:P.underlying K=some .string)(n:ByteArray)(es:List MapEntry)(r:Option (Nat × Value))(h:findNow .string (.string n) es 0=some r)(w:World):(findKey K (.string n) es).run P w=.ok r w:=by
 simp[findKey,run_underlying hK,Result.andThen,h]
theorem Qj6 {α:Type}(a:Array α)(x y:α)(h:a.size<(a.push x).size):(a.push x).set a.size y h=a.push y:=by
 apply Array.ext
 ·simp
 ·intro i h1 h2;simp only[Array.getElem_set,Array.getElem_push]
  by_cases e:a.size=i
  ·subst e;simp
  ·have h3:i<a.size:=by simp at h2;omega
   simp[e,h3]
theorem Zr {t K E:TypeId}(ht:P.underlying t=some (.map K E))(hK:P.underlying K=some .string)(w:World)(es:Array MapEntry)(c:Nat)(n:ByteArray)(v:Value)
  (hn:findNow .string (.string n) es.toList 0=some none) :
  (mapUpdate t (.map (some w.heap.size)) (.string n) v).run P (w.alloc (.map es c))=.ok () (w.alloc (.map (es.push { key:=.string n,val:=v,born:=c }) (c+1))):=by
 have hb:(w.alloc (.map es c)).heap[w.heap.size]?=some (.map es c):=Wbc w _;simp[mapUpdate,run_underlying ht,MapKept.run_getObj_map hb,Qbn hK,Qbo hK n es.toList none hn,MapKept.run_setObj_map _ hb,Result.andThen]
 have e:(w.alloc (.map es c)).heap.setIfInBounds w.heap.size (.map (es.push { key:=.string n,val:=v,born:=c }) (c+1))=w.heap.push (.map (es.push { key:=.string n,val:=v,born:=c }) (c+1)):=by
  show (w.heap.push (.map es c)).setIfInBounds w.heap.size _=_
  unfold Array.setIfInBounds;rw[dif_pos (by simp),Qj6]
 rw[e]
 rfl
theorem Zt {t K E:TypeId}(ht:P.underlying t=some (.map K E))(hK:P.underlying K=some .string)(w:World)(es:Array MapEntry)(c:Nat)(n:ByteArray)(i:Nat)(v:Value)
  (hn:findNow .string (.string n) es.toList 0=some (some (i,v))) :
  (lookup t (.map (some w.heap.size)) (.string n) false).run P (w.alloc (.map es c))=.ok v (w.alloc (.map es c)):=by
 have hb:(w.alloc (.map es c)).heap[w.heap.size]?=some (.map es c):=Wbc w _;simp[lookup,run_underlying ht,MapKept.run_getObj_map hb,Qbn hK,Qbo hK n es.toList _ hn,Result.andThen]
theorem Qj7 {t K E:TypeId}(ht:P.underlying t=some (.map K E))(hK:P.underlying K=some .string)(w:World)(es:Array MapEntry)(c:Nat)(n:ByteArray)(z:Value)
  (hz:∀ w:World,(zeroValue E).run P w=.ok z w) (hn:findNow .string (.string n) es.toList 0=some none) :
  (lookup t (.map (some w.heap.size)) (.string n) false).run P (w.alloc (.map es c))=.ok z (w.alloc (.map es c)):=by
 have hb:(w.alloc (.map es c)).heap[w.heap.size]?=some (.map es c):=Wbc w _;simp[lookup,run_underlying ht,MapKept.run_getObj_map hb,Qbn hK,Qbo hK n es.toList _ hn,hz,Result.andThen]
def kwF:Kw→Nat
 | .begin=>16
 | .count=>95
 | .deliver=>96
 | .edit=>97
 | .help=>98
 | .lose=>99
 | .many=>100
 | .place=>101
 | .quiet=>102
 | .rev=>103
 | .seen=>104
 | .send=>105
 | .server=>106
 | .spot=>107
 | .text=>108
 | .twice=>109
def Xi (D:Nat)(s:Bs):Value:=match Jv s with | some k=>.func (.func (kwF k)) #[.pointer (some ⟨D,0,none⟩)] #[] | none=>.nilFunc
def QV (D:Nat):Array MapEntry:=#[{ key:=.string ⟨#[98,101,103,105,110]⟩,val:=.func (.func 16) #[.pointer (some ⟨D,0,none⟩)] #[],born:=0 },
 { key:=.string ⟨#[99,111,117,110,116]⟩,val:=.func (.func 95) #[.pointer (some ⟨D,0,none⟩)] #[],born:=1 },
 { key:=.string ⟨#[100,101,108,105,118,101,114]⟩,val:=.func (.func 96) #[.pointer (some ⟨D,0,none⟩)] #[],born:=2 },
 { key:=.string ⟨#[101,100,105,116]⟩,val:=.func (.func 97) #[.pointer (some ⟨D,0,none⟩)] #[],born:=3 },
 { key:=.string ⟨#[104,101,108,112]⟩,val:=.func (.func 98) #[.pointer (some ⟨D,0,none⟩)] #[],born:=4 },
 { key:=.string ⟨#[108,111,115,101]⟩,val:=.func (.func 99) #[.pointer (some ⟨D,0,none⟩)] #[],born:=5 },
 { key:=.string ⟨#[109,97,110,121]⟩,val:=.func (.func 100) #[.pointer (some ⟨D,0,none⟩)] #[],born:=6 },
 { key:=.string ⟨#[112,108,97,99,101]⟩,val:=.func (.func 101) #[.pointer (some ⟨D,0,none⟩)] #[],born:=7 },
 { key:=.string ⟨#[113,117,105,101,116]⟩,val:=.func (.func 102) #[.pointer (some ⟨D,0,none⟩)] #[],born:=8 },
 { key:=.string ⟨#[114,101,118]⟩,val:=.func (.func 103) #[.pointer (some ⟨D,0,none⟩)] #[],born:=9 },
 { key:=.string ⟨#[115,101,101,110]⟩,val:=.func (.func 104) #[.pointer (some ⟨D,0,none⟩)] #[],born:=10 },
 { key:=.string ⟨#[115,101,110,100]⟩,val:=.func (.func 105) #[.pointer (some ⟨D,0,none⟩)] #[],born:=11 },
 { key:=.string ⟨#[115,101,114,118,101,114]⟩,val:=.func (.func 106) #[.pointer (some ⟨D,0,none⟩)] #[],born:=12 },
 { key:=.string ⟨#[115,112,111,116]⟩,val:=.func (.func 107) #[.pointer (some ⟨D,0,none⟩)] #[],born:=13 },
 { key:=.string ⟨#[116,101,120,116]⟩,val:=.func (.func 108) #[.pointer (some ⟨D,0,none⟩)] #[],born:=14 },
 { key:=.string ⟨#[116,119,105,99,101]⟩,val:=.func (.func 109) #[.pointer (some ⟨D,0,none⟩)] #[],born:=15 }]
theorem Qj8 {s k:Bs}(h:s≠k):((ByteArray.mk s.toArray) == ⟨k.toArray⟩)=false:=by
 show (s.toArray == k.toArray)=false
 simpa using h
theorem Qek {s:Bs}:∀ (es:List MapEntry) (i:Nat),(∀ e∈es,∃ k:Bs,e.key=.string ⟨k.toArray⟩∧s≠k)→findNow .string (.string ⟨s.toArray⟩) es i=some none
 | [],_,_=>rfl
 | e :: es,i,h=>by
  obtain⟨k,hk,hs⟩:=h e (by simp);simp only[findNow,hk,sameNow,Qj8 hs];exact Qek es (i+1) (fun e he=>h e (by simp[he]))
theorem Qj9 (D:Nat)(s:Bs)(w:World):(lookup 178 (.map (some w.heap.size)) (.string ⟨s.toArray⟩) false).run prog (w.alloc (.map (QV D) 16))=.ok (Xi D s) (w.alloc (.map (QV D) 16)):=by
 have ht:=underlying178;have hK:=underlying9
 by_cases h0:s=Qam
 ·subst h0;exact Zt ht hK w (QV D) 16 _ 0 _ rfl
 by_cases h1:s=Xq
 ·subst h1;exact Zt ht hK w (QV D) 16 _ 1 _ rfl
 by_cases h2:s=Yr
 ·subst h2;exact Zt ht hK w (QV D) 16 _ 2 _ rfl
 by_cases h3:s=Qan
 ·subst h3;exact Zt ht hK w (QV D) 16 _ 3 _ rfl
 by_cases h4:s=Qao
 ·subst h4;exact Zt ht hK w (QV D) 16 _ 4 _ rfl
 by_cases h5:s=Yt
 ·subst h5;exact Zt ht hK w (QV D) 16 _ 5 _ rfl
 by_cases h6:s=Qap
 ·subst h6;exact Zt ht hK w (QV D) 16 _ 6 _ rfl
 by_cases h7:s=Qaq
 ·subst h7;exact Zt ht hK w (QV D) 16 _ 7 _ rfl
 by_cases h8:s=Xr
 ·subst h8;exact Zt ht hK w (QV D) 16 _ 8 _ rfl
 by_cases h9:s=Qar
 ·subst h9;exact Zt ht hK w (QV D) 16 _ 9 _ rfl
 by_cases h10:s=Qas
 ·subst h10;exact Zt ht hK w (QV D) 16 _ 10 _ rfl
 by_cases h11:s=Yh
 ·subst h11;exact Zt ht hK w (QV D) 16 _ 11 _ rfl
 by_cases h12:s=Qat
 ·subst h12;exact Zt ht hK w (QV D) 16 _ 12 _ rfl
 by_cases h13:s=Qau
 ·subst h13;exact Zt ht hK w (QV D) 16 _ 13 _ rfl
 by_cases h14:s=Qav
 ·subst h14;exact Zt ht hK w (QV D) 16 _ 14 _ rfl
 by_cases h15:s=Yu
 ·subst h15;exact Zt ht hK w (QV D) 16 _ 15 _ rfl
 have hn:Jv s=none:=by unfold Jv;rw[if_neg h0,if_neg h1,if_neg h2,if_neg h3,if_neg h4,if_neg h5,if_neg h6,if_neg h7,if_neg h8,if_neg h9,if_neg h10,if_neg h11,if_neg h12,if_neg h13,if_neg h14,if_neg h15]
 unfold Xi;rw[hn];refine Qj7 ht hK w (QV D) 16 _ _ (fun w=>by kernel_rfl) (Qek _ _ ?_);intro e he;simp only[QV,Wbk,List.mem_nil_iff,or_false] at he;rcases he with rfl | rfl | rfl | rfl | rfl | rfl | rfl | rfl | rfl | rfl | rfl | rfl | rfl | rfl | rfl | rfl
 ·exact⟨Qam,rfl,h0⟩
 ·exact⟨Xq,rfl,h1⟩
 ·exact⟨Yr,rfl,h2⟩
 ·exact⟨Qan,rfl,h3⟩
 ·exact⟨Qao,rfl,h4⟩
 ·exact⟨Yt,rfl,h5⟩
 ·exact⟨Qap,rfl,h6⟩
 ·exact⟨Qaq,rfl,h7⟩
 ·exact⟨Xr,rfl,h8⟩
 ·exact⟨Qar,rfl,h9⟩
 ·exact⟨Qas,rfl,h10⟩
 ·exact⟨Yh,rfl,h11⟩
 ·exact⟨Qat,rfl,h12⟩
 ·exact⟨Qau,rfl,h13⟩
 ·exact⟨Qav,rfl,h14⟩
 ·exact⟨Yu,rfl,h15⟩
end
theorem Qel (D:Nat)(s:Bs)(w:World):Calls prog 57 #[.pointer (some ⟨D,0,none⟩),.string ⟨s.toArray⟩] w fun e w'=>e=.returned (Xi D s)∧Below w.heap.size w w':=by
 have hmm:=@run_makeMap prog;have hmf:∀ (fn:Fn) (first cap:Array Value) (w:World),(Instr.makeFunc fn first cap).run prog w=.ok (.func fn first cap) w:=fun _ _ _ _=>rfl
 have i0:=Zr (P:=prog) underlying178 underlying9 w #[] 0 ⟨#[98,101,103,105,110]⟩ (.func (.func 16) #[.pointer (some ⟨D,0,none⟩)] #[]) rfl;have i1:=Zr (P:=prog) underlying178 underlying9 w #[{ key:=.string ⟨#[98,101,103,105,110]⟩,val:=.func (.func 16) #[.pointer (some ⟨D,0,none⟩)] #[],born:=0 }] 1 ⟨#[99,111,117,110,116]⟩ (.func (.func 95) #[.pointer (some ⟨D,0,none⟩)] #[]) rfl;have i2:=Zr (P:=prog) underlying178 underlying9 w #[{ key:=.string ⟨#[98,101,103,105,110]⟩,val:=.func (.func 16) #[.pointer (some ⟨D,0,none⟩)] #[],born:=0 },{ key:=.string ⟨#[99,111,117,110,116]⟩,val:=.func (.func 95) #[.pointer (some ⟨D,0,none⟩)] #[],born:=1 }] 2 ⟨#[100,101,108,105,118,101,114]⟩ (.func (.func 96) #[.pointer (some ⟨D,0,none⟩)] #[]) rfl;have i3:=Zr (P:=prog) underlying178 underlying9 w #[{ key:=.string ⟨#[98,101,103,105,110]⟩,val:=.func (.func 16) #[.pointer (some ⟨D,0,none⟩)] #[],born:=0 },{ key:=.string ⟨#[99,111,117,110,116]⟩,val:=.func (.func 95) #[.pointer (some ⟨D,0,none⟩)] #[],born:=1 },{ key:=.string ⟨#[100,101,108,105,118,101,114]⟩,val:=.func (.func 96) #[.pointer (some ⟨D,0,none⟩)] #[],born:=2 }] 3 ⟨#[101,100,105,116]⟩ (.func (.func 97) #[.pointer (some ⟨D,0,none⟩)] #[]) rfl;have i4:=Zr (P:=prog) underlying178 underlying9 w #[{ key:=.string ⟨#[98,101,103,105,110]⟩,val:=.func (.func 16) #[.pointer (some ⟨D,0,none⟩)] #[],born:=0 },{ key:=.string ⟨#[99,111,117,110,116]⟩,val:=.func (.func 95) #[.pointer (some ⟨D,0,none⟩)] #[],born:=1 },{ key:=.string ⟨#[100,101,108,105,118,101,114]⟩,val:=.func (.func 96) #[.pointer (some ⟨D,0,none⟩)] #[],born:=2 },{ key:=.string ⟨#[101,100,105,116]⟩,val:=.func (.func 97) #[.pointer (some ⟨D,0,none⟩)] #[],born:=3 }] 4 ⟨#[104,101,108,112]⟩ (.func (.func 98) #[.pointer (some ⟨D,0,none⟩)] #[]) rfl;have i5:=Zr (P:=prog) underlying178 underlying9 w #[{ key:=.string ⟨#[98,101,103,105,110]⟩,val:=.func (.func 16) #[.pointer (some ⟨D,0,none⟩)] #[],born:=0 },{ key:=.string ⟨#[99,111,117,110,116]⟩,val:=.func (.func 95) #[.pointer (some ⟨D,0,none⟩)] #[],born:=1 },{ key:=.string ⟨#[100,101,108,105,118,101,114]⟩,val:=.func (.func 96) #[.pointer (some ⟨D,0,none⟩)] #[],born:=2 },{ key:=.string ⟨#[101,100,105,116]⟩,val:=.func (.func 97) #[.pointer (some ⟨D,0,none⟩)] #[],born:=3 },{ key:=.string ⟨#[104,101,108,112]⟩,val:=.func (.func 98) #[.pointer (some ⟨D,0,none⟩)] #[],born:=4 }] 5 ⟨#[108,111,115,101]⟩ (.func (.func 99) #[.pointer (some ⟨D,0,none⟩)] #[]) rfl;have i6:=Zr (P:=prog) underlying178 underlying9 w #[{ key:=.string ⟨#[98,101,103,105,110]⟩,val:=.func (.func 16) #[.pointer (some ⟨D,0,none⟩)] #[],born:=0 },{ key:=.string ⟨#[99,111,117,110,116]⟩,val:=.func (.func 95) #[.pointer (some ⟨D,0,none⟩)] #[],born:=1 },{ key:=.string ⟨#[100,101,108,105,118,101,114]⟩,val:=.func (.func 96) #[.pointer (some ⟨D,0,none⟩)] #[],born:=2 },{ key:=.string ⟨#[101,100,105,116]⟩,val:=.func (.func 97) #[.pointer (some ⟨D,0,none⟩)] #[],born:=3 },{ key:=.string ⟨#[104,101,108,112]⟩,val:=.func (.func 98) #[.pointer (some ⟨D,0,none⟩)] #[],born:=4 },{ key:=.string ⟨#[108,111,115,101]⟩,val:=.func (.func 99) #[.pointer (some ⟨D,0,none⟩)] #[],born:=5 }] 6 ⟨#[109,97,110,121]⟩ (.func (.func 100) #[.pointer (some ⟨D,0,none⟩)] #[]) rfl;have i7:=Zr (P:=prog) underlying178 underlying9 w #[{ key:=.string ⟨#[98,101,103,105,110]⟩,val:=.func (.func 16) #[.pointer (some ⟨D,0,none⟩)] #[],born:=0 },{ key:=.string ⟨#[99,111,117,110,116]⟩,val:=.func (.func 95) #[.pointer (some ⟨D,0,none⟩)] #[],born:=1 },{ key:=.string ⟨#[100,101,108,105,118,101,114]⟩,val:=.func (.func 96) #[.pointer (some ⟨D,0,none⟩)] #[],born:=2 },{ key:=.string ⟨#[101,100,105,116]⟩,val:=.func (.func 97) #[.pointer (some ⟨D,0,none⟩)] #[],born:=3 },{ key:=.string ⟨#[104,101,108,112]⟩,val:=.func (.func 98) #[.pointer (some ⟨D,0,none⟩)] #[],born:=4 },{ key:=.string ⟨#[108,111,115,101]⟩,val:=.func (.func 99) #[.pointer (some ⟨D,0,none⟩)] #[],born:=5 },{ key:=.string ⟨#[109,97,110,121]⟩,val:=.func (.func 100) #[.pointer (some ⟨D,0,none⟩)] #[],born:=6 }] 7 ⟨#[112,108,97,99,101]⟩ (.func (.func 101) #[.pointer (some ⟨D,0,none⟩)] #[]) rfl;have i8:=Zr (P:=prog) underlying178 underlying9 w #[{ key:=.string ⟨#[98,101,103,105,110]⟩,val:=.func (.func 16) #[.pointer (some ⟨D,0,none⟩)] #[],born:=0 },{ key:=.string ⟨#[99,111,117,110,116]⟩,val:=.func (.func 95) #[.pointer (some ⟨D,0,none⟩)] #[],born:=1 },{ key:=.string ⟨#[100,101,108,105,118,101,114]⟩,val:=.func (.func 96) #[.pointer (some ⟨D,0,none⟩)] #[],born:=2 },{ key:=.string ⟨#[101,100,105,116]⟩,val:=.func (.func 97) #[.pointer (some ⟨D,0,none⟩)] #[],born:=3 },{ key:=.string ⟨#[104,101,108,112]⟩,val:=.func (.func 98) #[.pointer (some ⟨D,0,none⟩)] #[],born:=4 },{ key:=.string ⟨#[108,111,115,101]⟩,val:=.func (.func 99) #[.pointer (some ⟨D,0,none⟩)] #[],born:=5 },{ key:=.string ⟨#[109,97,110,121]⟩,val:=.func (.func 100) #[.pointer (some ⟨D,0,none⟩)] #[],born:=6 },{ key:=.string ⟨#[112,108,97,99,101]⟩,val:=.func (.func 101) #[.pointer (some ⟨D,0,none⟩)] #[],born:=7 }] 8 ⟨#[113,117,105,101,116]⟩ (.func (.func 102) #[.pointer (some ⟨D,0,none⟩)] #[]) rfl;have i9:=Zr (P:=prog) underlying178 underlying9 w #[{ key:=.string ⟨#[98,101,103,105,110]⟩,val:=.func (.func 16) #[.pointer (some ⟨D,0,none⟩)] #[],born:=0 },{ key:=.string ⟨#[99,111,117,110,116]⟩,val:=.func (.func 95) #[.pointer (some ⟨D,0,none⟩)] #[],born:=1 },{ key:=.string ⟨#[100,101,108,105,118,101,114]⟩,val:=.func (.func 96) #[.pointer (some ⟨D,0,none⟩)] #[],born:=2 },{ key:=.string ⟨#[101,100,105,116]⟩,val:=.func (.func 97) #[.pointer (some ⟨D,0,none⟩)] #[],born:=3 },{ key:=.string ⟨#[104,101,108,112]⟩,val:=.func (.func 98) #[.pointer (some ⟨D,0,none⟩)] #[],born:=4 },{ key:=.string ⟨#[108,111,115,101]⟩,val:=.func (.func 99) #[.pointer (some ⟨D,0,none⟩)] #[],born:=5 },{ key:=.string ⟨#[109,97,110,121]⟩,val:=.func (.func 100) #[.pointer (some ⟨D,0,none⟩)] #[],born:=6 },{ key:=.string ⟨#[112,108,97,99,101]⟩,val:=.func (.func 101) #[.pointer (some ⟨D,0,none⟩)] #[],born:=7 },{ key:=.string ⟨#[113,117,105,101,116]⟩,val:=.func (.func 102) #[.pointer (some ⟨D,0,none⟩)] #[],born:=8 }] 9 ⟨#[114,101,118]⟩ (.func (.func 103) #[.pointer (some ⟨D,0,none⟩)] #[]) rfl;have i10:=Zr (P:=prog) underlying178 underlying9 w #[{ key:=.string ⟨#[98,101,103,105,110]⟩,val:=.func (.func 16) #[.pointer (some ⟨D,0,none⟩)] #[],born:=0 },{ key:=.string ⟨#[99,111,117,110,116]⟩,val:=.func (.func 95) #[.pointer (some ⟨D,0,none⟩)] #[],born:=1 },{ key:=.string ⟨#[100,101,108,105,118,101,114]⟩,val:=.func (.func 96) #[.pointer (some ⟨D,0,none⟩)] #[],born:=2 },{ key:=.string ⟨#[101,100,105,116]⟩,val:=.func (.func 97) #[.pointer (some ⟨D,0,none⟩)] #[],born:=3 },{ key:=.string ⟨#[104,101,108,112]⟩,val:=.func (.func 98) #[.pointer (some ⟨D,0,none⟩)] #[],born:=4 },{ key:=.string ⟨#[108,111,115,101]⟩,val:=.func (.func 99) #[.pointer (some ⟨D,0,none⟩)] #[],born:=5 },{ key:=.string ⟨#[109,97,110,121]⟩,val:=.func (.func 100) #[.pointer (some ⟨D,0,none⟩)] #[],born:=6 },{ key:=.string ⟨#[112,108,97,99,101]⟩,val:=.func (.func 101) #[.pointer (some ⟨D,0,none⟩)] #[],born:=7 },{ key:=.string ⟨#[113,117,105,101,116]⟩,val:=.func (.func 102) #[.pointer (some ⟨D,0,none⟩)] #[],born:=8 },{ key:=.string ⟨#[114,101,118]⟩,val:=.func (.func 103) #[.pointer (some ⟨D,0,none⟩)] #[],born:=9 }] 10 ⟨#[115,101,101,110]⟩ (.func (.func 104) #[.pointer (some ⟨D,0,none⟩)] #[]) rfl;have i11:=Zr (P:=prog) underlying178 underlying9 w #[{ key:=.string ⟨#[98,101,103,105,110]⟩,val:=.func (.func 16) #[.pointer (some ⟨D,0,none⟩)] #[],born:=0 },{ key:=.string ⟨#[99,111,117,110,116]⟩,val:=.func (.func 95) #[.pointer (some ⟨D,0,none⟩)] #[],born:=1 },{ key:=.string ⟨#[100,101,108,105,118,101,114]⟩,val:=.func (.func 96) #[.pointer (some ⟨D,0,none⟩)] #[],born:=2 },{ key:=.string ⟨#[101,100,105,116]⟩,val:=.func (.func 97) #[.pointer (some ⟨D,0,none⟩)] #[],born:=3 },{ key:=.string ⟨#[104,101,108,112]⟩,val:=.func (.func 98) #[.pointer (some ⟨D,0,none⟩)] #[],born:=4 },{ key:=.string ⟨#[108,111,115,101]⟩,val:=.func (.func 99) #[.pointer (some ⟨D,0,none⟩)] #[],born:=5 },{ key:=.string ⟨#[109,97,110,121]⟩,val:=.func (.func 100) #[.pointer (some ⟨D,0,none⟩)] #[],born:=6 },{ key:=.string ⟨#[112,108,97,99,101]⟩,val:=.func (.func 101) #[.pointer (some ⟨D,0,none⟩)] #[],born:=7 },{ key:=.string ⟨#[113,117,105,101,116]⟩,val:=.func (.func 102) #[.pointer (some ⟨D,0,none⟩)] #[],born:=8 },{ key:=.string ⟨#[114,101,118]⟩,val:=.func (.func 103) #[.pointer (some ⟨D,0,none⟩)] #[],born:=9 },{ key:=.string ⟨#[115,101,101,110]⟩,val:=.func (.func 104) #[.pointer (some ⟨D,0,none⟩)] #[],born:=10 }] 11 ⟨#[115,101,110,100]⟩ (.func (.func 105) #[.pointer (some ⟨D,0,none⟩)] #[]) rfl;have i12:=Zr (P:=prog) underlying178 underlying9 w #[{ key:=.string ⟨#[98,101,103,105,110]⟩,val:=.func (.func 16) #[.pointer (some ⟨D,0,none⟩)] #[],born:=0 },{ key:=.string ⟨#[99,111,117,110,116]⟩,val:=.func (.func 95) #[.pointer (some ⟨D,0,none⟩)] #[],born:=1 },{ key:=.string ⟨#[100,101,108,105,118,101,114]⟩,val:=.func (.func 96) #[.pointer (some ⟨D,0,none⟩)] #[],born:=2 },{ key:=.string ⟨#[101,100,105,116]⟩,val:=.func (.func 97) #[.pointer (some ⟨D,0,none⟩)] #[],born:=3 },{ key:=.string ⟨#[104,101,108,112]⟩,val:=.func (.func 98) #[.pointer (some ⟨D,0,none⟩)] #[],born:=4 },{ key:=.string ⟨#[108,111,115,101]⟩,val:=.func (.func 99) #[.pointer (some ⟨D,0,none⟩)] #[],born:=5 },{ key:=.string ⟨#[109,97,110,121]⟩,val:=.func (.func 100) #[.pointer (some ⟨D,0,none⟩)] #[],born:=6 },{ key:=.string ⟨#[112,108,97,99,101]⟩,val:=.func (.func 101) #[.pointer (some ⟨D,0,none⟩)] #[],born:=7 },{ key:=.string ⟨#[113,117,105,101,116]⟩,val:=.func (.func 102) #[.pointer (some ⟨D,0,none⟩)] #[],born:=8 },{ key:=.string ⟨#[114,101,118]⟩,val:=.func (.func 103) #[.pointer (some ⟨D,0,none⟩)] #[],born:=9 },{ key:=.string ⟨#[115,101,101,110]⟩,val:=.func (.func 104) #[.pointer (some ⟨D,0,none⟩)] #[],born:=10 },{ key:=.string ⟨#[115,101,110,100]⟩,val:=.func (.func 105) #[.pointer (some ⟨D,0,none⟩)] #[],born:=11 }] 12 ⟨#[115,101,114,118,101,114]⟩ (.func (.func 106) #[.pointer (some ⟨D,0,none⟩)] #[]) rfl;have i13:=Zr (P:=prog) underlying178 underlying9 w #[{ key:=.string ⟨#[98,101,103,105,110]⟩,val:=.func (.func 16) #[.pointer (some ⟨D,0,none⟩)] #[],born:=0 },{ key:=.string ⟨#[99,111,117,110,116]⟩,val:=.func (.func 95) #[.pointer (some ⟨D,0,none⟩)] #[],born:=1 },{ key:=.string ⟨#[100,101,108,105,118,101,114]⟩,val:=.func (.func 96) #[.pointer (some ⟨D,0,none⟩)] #[],born:=2 },{ key:=.string ⟨#[101,100,105,116]⟩,val:=.func (.func 97) #[.pointer (some ⟨D,0,none⟩)] #[],born:=3 },{ key:=.string ⟨#[104,101,108,112]⟩,val:=.func (.func 98) #[.pointer (some ⟨D,0,none⟩)] #[],born:=4 },{ key:=.string ⟨#[108,111,115,101]⟩,val:=.func (.func 99) #[.pointer (some ⟨D,0,none⟩)] #[],born:=5 },{ key:=.string ⟨#[109,97,110,121]⟩,val:=.func (.func 100) #[.pointer (some ⟨D,0,none⟩)] #[],born:=6 },{ key:=.string ⟨#[112,108,97,99,101]⟩,val:=.func (.func 101) #[.pointer (some ⟨D,0,none⟩)] #[],born:=7 },{ key:=.string ⟨#[113,117,105,101,116]⟩,val:=.func (.func 102) #[.pointer (some ⟨D,0,none⟩)] #[],born:=8 },{ key:=.string ⟨#[114,101,118]⟩,val:=.func (.func 103) #[.pointer (some ⟨D,0,none⟩)] #[],born:=9 },{ key:=.string ⟨#[115,101,101,110]⟩,val:=.func (.func 104) #[.pointer (some ⟨D,0,none⟩)] #[],born:=10 },{ key:=.string ⟨#[115,101,110,100]⟩,val:=.func (.func 105) #[.pointer (some ⟨D,0,none⟩)] #[],born:=11 },{ key:=.string ⟨#[115,101,114,118,101,114]⟩,val:=.func (.func 106) #[.pointer (some ⟨D,0,none⟩)] #[],born:=12 }] 13 ⟨#[115,112,111,116]⟩ (.func (.func 107) #[.pointer (some ⟨D,0,none⟩)] #[]) rfl;have i14:=Zr (P:=prog) underlying178 underlying9 w #[{ key:=.string ⟨#[98,101,103,105,110]⟩,val:=.func (.func 16) #[.pointer (some ⟨D,0,none⟩)] #[],born:=0 },{ key:=.string ⟨#[99,111,117,110,116]⟩,val:=.func (.func 95) #[.pointer (some ⟨D,0,none⟩)] #[],born:=1 },{ key:=.string ⟨#[100,101,108,105,118,101,114]⟩,val:=.func (.func 96) #[.pointer (some ⟨D,0,none⟩)] #[],born:=2 },{ key:=.string ⟨#[101,100,105,116]⟩,val:=.func (.func 97) #[.pointer (some ⟨D,0,none⟩)] #[],born:=3 },{ key:=.string ⟨#[104,101,108,112]⟩,val:=.func (.func 98) #[.pointer (some ⟨D,0,none⟩)] #[],born:=4 },{ key:=.string ⟨#[108,111,115,101]⟩,val:=.func (.func 99) #[.pointer (some ⟨D,0,none⟩)] #[],born:=5 },{ key:=.string ⟨#[109,97,110,121]⟩,val:=.func (.func 100) #[.pointer (some ⟨D,0,none⟩)] #[],born:=6 },{ key:=.string ⟨#[112,108,97,99,101]⟩,val:=.func (.func 101) #[.pointer (some ⟨D,0,none⟩)] #[],born:=7 },{ key:=.string ⟨#[113,117,105,101,116]⟩,val:=.func (.func 102) #[.pointer (some ⟨D,0,none⟩)] #[],born:=8 },{ key:=.string ⟨#[114,101,118]⟩,val:=.func (.func 103) #[.pointer (some ⟨D,0,none⟩)] #[],born:=9 },{ key:=.string ⟨#[115,101,101,110]⟩,val:=.func (.func 104) #[.pointer (some ⟨D,0,none⟩)] #[],born:=10 },{ key:=.string ⟨#[115,101,110,100]⟩,val:=.func (.func 105) #[.pointer (some ⟨D,0,none⟩)] #[],born:=11 },{ key:=.string ⟨#[115,101,114,118,101,114]⟩,val:=.func (.func 106) #[.pointer (some ⟨D,0,none⟩)] #[],born:=12 },{ key:=.string ⟨#[115,112,111,116]⟩,val:=.func (.func 107) #[.pointer (some ⟨D,0,none⟩)] #[],born:=13 }] 14 ⟨#[116,101,120,116]⟩ (.func (.func 108) #[.pointer (some ⟨D,0,none⟩)] #[]) rfl;have i15:=Zr (P:=prog) underlying178 underlying9 w #[{ key:=.string ⟨#[98,101,103,105,110]⟩,val:=.func (.func 16) #[.pointer (some ⟨D,0,none⟩)] #[],born:=0 },{ key:=.string ⟨#[99,111,117,110,116]⟩,val:=.func (.func 95) #[.pointer (some ⟨D,0,none⟩)] #[],born:=1 },{ key:=.string ⟨#[100,101,108,105,118,101,114]⟩,val:=.func (.func 96) #[.pointer (some ⟨D,0,none⟩)] #[],born:=2 },{ key:=.string ⟨#[101,100,105,116]⟩,val:=.func (.func 97) #[.pointer (some ⟨D,0,none⟩)] #[],born:=3 },{ key:=.string ⟨#[104,101,108,112]⟩,val:=.func (.func 98) #[.pointer (some ⟨D,0,none⟩)] #[],born:=4 },{ key:=.string ⟨#[108,111,115,101]⟩,val:=.func (.func 99) #[.pointer (some ⟨D,0,none⟩)] #[],born:=5 },{ key:=.string ⟨#[109,97,110,121]⟩,val:=.func (.func 100) #[.pointer (some ⟨D,0,none⟩)] #[],born:=6 },{ key:=.string ⟨#[112,108,97,99,101]⟩,val:=.func (.func 101) #[.pointer (some ⟨D,0,none⟩)] #[],born:=7 },{ key:=.string ⟨#[113,117,105,101,116]⟩,val:=.func (.func 102) #[.pointer (some ⟨D,0,none⟩)] #[],born:=8 },{ key:=.string ⟨#[114,101,118]⟩,val:=.func (.func 103) #[.pointer (some ⟨D,0,none⟩)] #[],born:=9 },{ key:=.string ⟨#[115,101,101,110]⟩,val:=.func (.func 104) #[.pointer (some ⟨D,0,none⟩)] #[],born:=10 },{ key:=.string ⟨#[115,101,110,100]⟩,val:=.func (.func 105) #[.pointer (some ⟨D,0,none⟩)] #[],born:=11 },{ key:=.string ⟨#[115,101,114,118,101,114]⟩,val:=.func (.func 106) #[.pointer (some ⟨D,0,none⟩)] #[],born:=12 },{ key:=.string ⟨#[115,112,111,116]⟩,val:=.func (.func 107) #[.pointer (some ⟨D,0,none⟩)] #[],born:=13 },{ key:=.string ⟨#[116,101,120,116]⟩,val:=.func (.func 108) #[.pointer (some ⟨D,0,none⟩)] #[],born:=14 }] 15 ⟨#[116,119,105,99,101]⟩ (.func (.func 109) #[.pointer (some ⟨D,0,none⟩)] #[]) rfl;have hl:=Qj9 D s w;unfold QV at hl;generalize Xi D s=v at *;go_enter func57,ntmps57
 go_wp2
 go_ret
 exact⟨rfl,Qb (Wac _ _) _⟩
end
end Go.Proofs.YtckkgdmkfbkaoaaGreatDoor
