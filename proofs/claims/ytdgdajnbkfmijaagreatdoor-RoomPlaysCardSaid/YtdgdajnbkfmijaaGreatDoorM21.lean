/- Texts of the proof. -/
import Derived.Test.YtdgdajnbkfmijaaGreatDoorM20
import Derived.Laws.MakeOwn
import Derived.RegionTactic
import Derived.Deep.DeepCutAuto
namespace Go.Proofs.YtdgdajnbkfmijaaGreatDoor
open Go.Proofs.Tryz
set_option maxRecDepth 100000
set_option maxHeartbeats 32000000
open Go.RowKit
def strs (l:List U.Bs):List Value:=l.map fun b=>.string ⟨b.toArray⟩
def bools (l:List Bool):List Value:=l.map .bool
def ZB (n:Nat):Array Value:=(strs (List.replicate n [])).toArray
def ZC (n:Nat):Array Value:=(bools (List.replicate n false)).toArray
theorem Qth (z:Value)(n:Nat):madeCells #[z] n=(List.replicate n z).toArray:=by
 apply Array.ext'
 rw[toList_madeCells_one]
theorem Qjk {P:Program}{t e:TypeId}{z:Value}{bytes:Nat}(ht:P.underlying t=some (.slice e))(h:(P.info? e).map (fun i=>(i.zero,i.size,i.bytes))=some (some z,1,bytes))(hz:z.cells=#[z])
  (n:Nat) (hb:bytes*n≤281474976710656) (hn:n≤9223372036854775807) (a:Int) (ha:a=n) (w:World) :
  (Instr.makeSlice t (.int .i64 a) (.int .i64 a)).run P w=.ok (.slice (some ⟨w.heap.size,0,none⟩) n n) (w.alloc (.cells (List.replicate n z).toArray e)):=by
 subst ha
 cases hi:P.info? e with
 | none=>rw[hi] at h;simp at h
 | some i =>
  rw[hi] at h;simp only[Option.map_some,Option.some.injEq,Prod.mk.injEq] at h;obtain⟨h1,h2,h3⟩:=h
  have hb':(i.bytes:Int)*(n:Int)≤281474976710656:=by
   rw[h3];have h:((bytes*n:Nat):Int)≤281474976710656:=by omega
   rwa [Int.natCast_mul] at h
  have:=run_make (P:=P) w t e i z ht hi h1 .i64 .i64 n n (by omega) (Wba _) hb' (by omega)
  rw[this,h2,Int.toNat_natCast,hz,Nat.mul_one,Qth]
theorem Qjl (n:Nat)(hn:n≤1099511627776)(a:Int)(ha:a=n)(w:World):(Instr.makeSlice 46 (.int .i64 a) (.int .i64 a)).run prog w=.ok (.slice (some ⟨w.heap.size,0,none⟩) n n) (w.alloc (.cells (ZB n) 9)):=by
 have:=Qjk (P:=prog) (z:=.string ⟨#[]⟩) (bytes:=16) underlying46 (by kernel_rfl) rfl n (by omega) (by omega) a ha w
 rw[this];unfold ZB strs;rw[List.map_replicate]
theorem Qjm (n:Nat)(hn:n≤1099511627776)(a:Int)(ha:a=n)(w:World):(Instr.makeSlice 232 (.int .i64 a) (.int .i64 a)).run prog w=.ok (.slice (some ⟨w.heap.size,0,none⟩) n n) (w.alloc (.cells (ZC n) 4)):=by
 have:=Qjk (P:=prog) (z:=.bool false) (bytes:=1) underlying232 (by kernel_rfl) rfl n (by omega) (by omega) a ha w
 rw[this];unfold ZC bools;rw[List.map_replicate]
theorem Sl.of_blk {w:World}{g:Nat}{t:TypeId}{xs:List Value}{n:Nat}(h:Blk w g t xs.toArray)(hl:xs.length=n)(hm:n≤maxLen):Sl w 1 (.slice (some ⟨g,0,none⟩) n n) n xs:=by
 refine⟨_,_,rfl,by rw[hl,Nat.mul_one],Wak _,hm,(fun h=>nomatch h),fun _=>⟨_,rfl,h.lt,fun j u hu=>?_⟩⟩
 have:(⟨g,0,none⟩:Addr).add j=⟨g,j,none⟩:=by unfold Addr.add;split<;>simp_all
 rw[this,h.cell j,Wab];exact hu
structure GB (w:World)(gG gP gD N:Nat)(P:List U.Bs)(D:List Bool):Prop where
 G:Blk w gG 234 #[.slice (some ⟨gP,0,none⟩) (N+1) (N+1),.slice (some ⟨gD,0,none⟩) N N]
 P:Blk w gP 9 (strs P).toArray
 D:Blk w gD 4 (bools D).toArray
theorem Blk.ty {w:World}{g:Nat}{t t':TypeId}{cs cs':Array Value}(h:Blk w g t cs)(h':Blk w g t' cs'):t=t':=by
 unfold Blk at h h';rw[h] at h';simp at h';exact h'.2
section
variable {w w':World}{gG gP gD N:Nat}{P:List U.Bs}{D:List Bool}
theorem GB.ne (h:GB w gG gP gD N P D):gG≠gP∧gG≠gD∧gP≠gD:=by
 refine⟨?_,?_,?_⟩
 ·rintro rfl;exact absurd (h.G.ty h.P) (by decide)
 ·rintro rfl;exact absurd (h.G.ty h.D) (by decide)
 ·rintro rfl;exact absurd (h.P.ty h.D) (by decide)
theorem GB.alloc (h:GB w gG gP gD N P D)(o:Obj):GB (w.alloc o) gG gP gD N P D:=⟨h.G.alloc o,h.P.alloc o,h.D.alloc o⟩
theorem GB.drew (h:GB w gG gP gD N P D):GB w.drew gG gP gD N P D:=⟨h.G,h.P,h.D⟩
theorem Qti (l:List U.Bs)(i:Nat)(b:U.Bs):(strs l).toArray.setIfInBounds i (.string ⟨b.toArray⟩)=(strs (l.set i b)).toArray:=by
 apply Array.ext'
 simp[strs,List.map_set]
theorem Qtj (l:List Bool)(i:Nat)(b:Bool):(bools l).toArray.setIfInBounds i (.bool b)=(bools (l.set i b)).toArray:=by
 apply Array.ext'
 simp[bools,List.map_set]
theorem GB.setP (h:GB w gG gP gD N P D)(i:Nat)(b:U.Bs):GB (w.setCell ⟨gP,i,none⟩ (.string ⟨b.toArray⟩)) gG gP gD N (P.set i b) D:=by
 obtain⟨n1,n2,n3⟩:=h.ne;refine⟨h.G.far (p:=⟨gP,i,none⟩) n1 _,?_,h.D.far (p:=⟨gP,i,none⟩) (Ne.symm n3) _⟩;rw[← Qti];exact h.P.set_ i _
theorem GB.setD (h:GB w gG gP gD N P D)(i:Nat)(b:Bool):GB (w.setCell ⟨gD,i,none⟩ (.bool b)) gG gP gD N P (D.set i b):=by
 obtain⟨n1,n2,n3⟩:=h.ne;refine⟨h.G.far (p:=⟨gD,i,none⟩) n2 _,h.P.far (p:=⟨gD,i,none⟩) n3 _,?_⟩;rw[← Qtj];exact h.D.set_ i _
theorem GB.cells (h:GB w gG gP gD N P D):w.cell? ⟨gG,0,none⟩=some (.slice (some ⟨gP,0,none⟩) (N+1) (N+1))∧w.cell? ⟨gG,1,none⟩=some (.slice (some ⟨gD,0,none⟩) N N):=by
 have c0:=h.G.cell 0;have c1:=h.G.cell 1;simp only[Wab,Waa,Wae] at c0 c1
 exact⟨c0,c1⟩
theorem GB.cellP (h:GB w gG gP gD N P D){i:Nat}{b:U.Bs}(hi:P[i]?=some b):w.cell? ⟨gP,i,none⟩=some (.string ⟨b.toArray⟩)∧w.frozen? ⟨gP,i,none⟩=false:=by
 refine⟨?_,h.P.frozen i⟩;rw[h.P.cell i];simp[strs,hi]
theorem GB.cellD (h:GB w gG gP gD N P D){i:Nat}{b:Bool}(hi:D[i]?=some b):w.cell? ⟨gD,i,none⟩=some (.bool b)∧w.frozen? ⟨gD,i,none⟩=false:=by
 refine⟨?_,h.D.frozen i⟩;rw[h.D.cell i];simp[bools,hi]
theorem ZZ (w1:World)(t1 t2 t3:TypeId)(c1 c2 c3:Array Value):Blk (((w1.alloc (.cells c1 t1)).alloc (.cells c2 t2)).alloc (.cells c3 t3)) w1.heap.size t1 c1 ∧
  Blk (((w1.alloc (.cells c1 t1)).alloc (.cells c2 t2)).alloc (.cells c3 t3)) (w1.heap.size+1) t2 c2∧Blk (((w1.alloc (.cells c1 t1)).alloc (.cells c2 t2)).alloc (.cells c3 t3)) (w1.heap.size+1+1) t3 c3:=by
 refine⟨((Blk.new _ _ _).alloc _).alloc _,?_,?_⟩
 ·have:=(Blk.new (w1.alloc (.cells c1 t1)) t2 c2).alloc (.cells c3 t3)
  rwa [Waq] at this
 ·have:=Blk.new ((w1.alloc (.cells c1 t1)).alloc (.cells c2 t2)) t3 c3
  rwa [Waq,Waq] at this
end
def SS.padP (S:SS)(N:Nat):List U.Bs:=S.P++List.replicate (N-S.l.length) []
def SS.padD (S:SS)(N:Nat):List Bool:=S.D++List.replicate (N-S.l.length) false
section
variable {S:SS}{N m:Nat}
theorem SS.padP_take (x:Bool)(h:S.l.length+m≤N):(S.take x m).padP N=S.padP N:=by
 unfold SS.padP;rw[SS.take_P,SS.take_len,Wah,List.replicate_append_replicate,show m+(N-(S.l.length+m))=N-S.l.length from by omega]
theorem SS.padD_false (h:S.l.length+m≤N):(S.take false m).padD N=S.padD N:=by
 unfold SS.padD;rw[SS.take_D,SS.take_len,Wah,List.replicate_append_replicate,show m+(N-(S.l.length+m))=N-S.l.length from by omega]
theorem SS.padD_true (h:S.l.length<N):(S.padD N).set S.l.length true=(S.take true 1).padD N:=by
 unfold SS.padD;have e:N-S.l.length=(N-(S.l.length+1))+1:=by omega
 rw[SS.take_D,SS.take_len,e,Wat,← SS.D_length S,List.set_append_right _ _ (Wak _),Nat.sub_self,Wah]
 rfl
theorem SS.padP_put (b:U.Bs):(S.padP N).set S.l.length b=(⟨S.l,b⟩:SS).padP N:=by
 unfold SS.padP SS.P;rw[Wah,List.set_append_right _ _ (by simp)];simp
theorem SS.padP_at:(S.padP N)[S.l.length]?=some S.e:=by
 unfold SS.padP SS.P;rw[Wah,Way (by simp)];simp
theorem SS.padD_at (h:S.l.length<N):(S.padD N)[S.l.length]?=some false:=by
 unfold SS.padD;rw[Way (by rw[SS.D_length];exact Wak _),SS.D_length,Nat.sub_self];rw[List.getElem?_replicate,if_pos (by omega)]
theorem SS.take_take (x:Bool)(a b:Nat):SS.take x b (SS.take x a S)=SS.take x (a+b) S:=by
 induction a generalizing S with
 | zero=>simp[SS.take]
 | succ a ih=>rw[SS.take,ih,Nat.add_right_comm,SS.take]
theorem Qtk {l:List PT}{k:Nat}(h:k<l.length):spread (l.take (k+1))=(spread (l.take k)).step l[k]:=by
 unfold spread;rw[Wag h,List.foldl_append];rfl
theorem SS.step_len (p:PT):(S.step p).l.length=S.l.length+p.drop.toNat+p.keep.toNat:=by
 unfold SS.step;rw[SS.take_len,SS.take_len]
theorem Qbf {l:List PT}(h:∀ p∈l,p.arg):((spread l).l.length:Int)=was l:=by
 suffices hs:∀ S:SS,((l.foldl SS.step S).l.length:Int)=S.l.length+was l by
  have:=hs .zero
  simpa [spread,SS.zero] using this
 induction l with
 | nil=>intro S;simp[was]
 | cons p l ih =>
  intro S;obtain⟨_,h2,h3⟩:=h p (by simp);rw[List.foldl_cons,ih (fun q hq=>h q (by simp[hq])),SS.step_len,was];omega
theorem SS.step_e (p:PT):(S.step p).e.length≤S.e.length+p.put.length:=by
 have ht:∀ (x:Bool) (m:Nat) (S:SS),(SS.take x m S).e.length≤S.e.length:=by
  intro x m
  induction m with
  | zero=>intro S;exact Wak _
  | succ m ih=>intro S;rw[SS.take];exact Wbf (ih _) (by simp)
 unfold SS.step;exact Wbf (ht _ _ _) (Wbf (ht _ _ _) (by simp))
theorem Qtl (l:List PT):(spread l).e.length≤Qc l:=by
 suffices hs:∀ S:SS,(l.foldl SS.step S).e.length≤S.e.length+Qc l by
  have:=hs .zero
  simpa [spread,SS.zero] using this
 induction l with
 | nil=>intro S;simp[Qc]
 | cons p l ih =>
  intro S;rw[List.foldl_cons,Qc]
  have:=ih (S.step p)
  have:=SS.step_e (S:=S) p
  omega
end
def GCut (w1:World)(N:Nat)(s5:Value)(wx:World):Prop:=∃ gG gP gD:Nat,s5=.pointer (some ⟨gG,0,none⟩)∧GB wx gG gP gD N (SS.zero.padP N) (SS.zero.padD N)∧(w1.heap.size≤gG∧w1.heap.size≤gP∧w1.heap.size≤gD)∧Below w1.heap.size w1 wx
def Qtm (l:List PT)(N:Nat)(w:World)(e:Ending)(w':World):Prop :=
 (∃ vp vd,e=.returned (.agg #[vp,vd])∧Sl w' 1 vp (N+1) (strs (spread l).P)∧Sl w' 1 vd N (bools (spread l).D))∧Below w.heap.size w w'
section
attribute [local go_sem] Qr Xp
theorem JH {l:List PT}{v:Value}{n N:Nat}{w:World}(hsl:Sl w 3 v n (opv l))(ha:∀ p∈l,p.arg)(hw:was l=N)(hN:N≤68719476736)(hp:Qc l≤1099511627776)(hn:n≤68719476736) :
  Calls prog 145 #[v] w (Qtm l N w):=by
 have hln:l.length=n:=by have:=hsl.len;rw[QH] at this;omega
 have HSL:=Hm hsl;have HA:=Hm ha;have HWL:Hd (wrap64 (was l)=N):=⟨by rw[hw];unfold wrap64;omega⟩;have HW:=Hm hw;obtain⟨A,c,rfl,-⟩:=hsl;have hm1:=Qjl (N+1) (by omega) ((N:Int)+1) (by omega);have hm2:=Qjm N (by omega) (N:Int) rfl;clear ha hw;go_enter func145,ntmps145
 go_wp2_with fail;refine (Xg (HSL.o.below (Qa (Wac _ _) _))).mono ?_;rintro e w1 ⟨he,hb1⟩;rw[HWL.o] at he;subst he;have HB1:=Hm (Qb (Qa (Wac _ _) _) hb1);have HR:=Hm ((Blk.new w 234 #[.slice none 0 0,.slice none 0 0]).below hb1 (by simp));have hz0:w.heap.size<w1.heap.size:=by have:=hb1.size;simp at this;omega
 clear hb1;go_upto_region 2 with fail
 go_cut [5] (fun s5 wx=>GCut w1 N s5 wx)
 case first =>
  go_region
  all_goals
   go_wp2_with fail;go_meet
   first
    | (obtain⟨x1,x2,x3⟩:=ZZ w1 9 4 234 (ZB (N+1)) (ZC N) _;exact⟨_,_,_,rfl,⟨x3,x1,x2⟩,by omega,Qe (Qa (Qa (Qa (Wac _ _) _) _) _)⟩)
    | (obtain⟨x1,x2,x3⟩:=ZZ w1 9 234 4 (ZB (N+1)) _ (ZC N);exact⟨_,_,_,rfl,⟨x2,x1,x3⟩,by omega,Qe (Qa (Qa (Qa (Wac _ _) _) _) _)⟩)
    | (obtain⟨x1,x2,x3⟩:=ZZ w1 4 9 234 (ZC N) (ZB (N+1)) _;exact⟨_,_,_,rfl,⟨x3,x2,x1⟩,by omega,Qe (Qa (Qa (Qa (Wac _ _) _) _) _)⟩)
    | (obtain⟨x1,x2,x3⟩:=ZZ w1 4 234 9 (ZC N) _ (ZB (N+1));exact⟨_,_,_,rfl,⟨x2,x3,x1⟩,by omega,Qe (Qa (Qa (Qa (Wac _ _) _) _) _)⟩)
    | (obtain⟨x1,x2,x3⟩:=ZZ w1 234 9 4 _ (ZB (N+1)) (ZC N);exact⟨_,_,_,rfl,⟨x1,x2,x3⟩,by omega,Qe (Qa (Qa (Qa (Wac _ _) _) _) _)⟩)
    | (obtain⟨x1,x2,x3⟩:=ZZ w1 234 4 9 _ (ZC N) (ZB (N+1));exact⟨_,_,_,rfl,⟨x1,x3,x2⟩,by omega,Qe (Qa (Qa (Qa (Wac _ _) _) _) _)⟩)
 case rest =>
  obtain⟨gG,gP,gD,rfl,hgb,⟨hge1,hge2,hge3⟩,hbel0⟩:=hcut;have HG0:=Hm hgb;have HB2:=Hm (HB1.o.trans (hbel0.mono (by omega)));have HRW:=Hm (HR.o.below hbel0 hz0);clear hgb hbel0;go_wp2_with fail
  go_loopw [6,22] (fun at_ i wr=>∃ k a:Nat,k≤n∧i=.int .i64 k∧at_=.int .i64 a∧(spread (l.take k)).l.length=a∧GB wr gG gP gD N ((spread (l.take k)).padP N) ((spread (l.take k)).padD N)∧Blk wr w.heap.size 234 #[.slice none 0 0,.slice none 0 0]∧Below w.heap.size w wr) (fun _ i _=>n-(intOf i).toNat)
  case atStart=>exact⟨0,0,by omega,rfl,rfl,rfl,HG0.o,HRW.o,HB2.o⟩
  case round =>
   obtain⟨k,a,hk,rfl,rfl,hlen,hgb,hrw,hbel⟩:=hrel;have HB:=Hm hbel;have HGB:=Hm hgb;have HRW2:=Hm hrw
   by_cases hkn:k<n
   ·have HS:=Hm (Qtk (l:=l) (k:=k) (by omega));have hwk:((spread (l.take k)).l.length:Int)=was (l.take k):=Qbf (fun p hp=>HA.o p (List.mem_of_mem_take hp));have hel:=Qtl (l.take k);have hpt:=YV l k;obtain⟨b,o,c',hv,hlt,c0,c1,c2⟩:=(HSL.o.below hbel).part hkn (by omega)
    cases hv
    have harg:=HA.o _ (Wau (h:=(by omega:k<l.length)))
    have hwl:(a:Int)+(l[k].keep+l[k].drop)≤N:=by
     have h1:=Jo HA.o (k+1);have h2:=HW.o;rw[Wag (by omega),Z5,was,was] at h1;omega
    have hpl:l[k].put.length≤1099511627776:=by
     have h1:=YV l (k+1);rw[Wag (by omega),ZU,Qc] at h1;omega
    generalize spread (l.take k)=S at *;generalize l[k]=p at *;obtain⟨x,y,z⟩:=p;obtain⟨_,hx,hy⟩:=harg;obtain⟨x,rfl⟩:=Was hx;obtain⟨y,rfl⟩:=Was hy;dsimp only at hwl hpl c0 c1 c2;clear hx hy hwk;subst hlen;have hgbc:=hgb.cells;obtain⟨g0,g1⟩:=hgbc;obtain⟨q0,q1⟩:=hgb.cellP (SS.padP_at (S:=S) (N:=N));have hlG:=hgb.G.lt;have hlP:=hgb.P.lt;have hlD:=hgb.D.lt;have hSe:S.e.length≤1099511627776:=by omega
    clear hbel hgb hrw
    have HSE:Hd (GB (((wr.setCell ⟨gP,S.l.length,none⟩ (.string ⟨(S.e++z).toArray⟩)).alloc (.cells #[.int .i64 x,.int .i64 y,.string ⟨z.toArray⟩] 113)).drew) gG gP gD N ((⟨S.l,S.e++z⟩:SS).padP N) ((⟨S.l,S.e++z⟩:SS).padD N)) :=
     ⟨by rw[← SS.padP_put];exact ((HGB.o.setP _ _).alloc _).drew⟩
    have HPB:Hd (Blk (((wr.setCell ⟨gP,S.l.length,none⟩ (.string ⟨(S.e++z).toArray⟩)).alloc (.cells #[.int .i64 x,.int .i64 y,.string ⟨z.toArray⟩] 113)).drew) wr.heap.size 113 #[.int .i64 x,.int .i64 y,.string ⟨z.toArray⟩]) :=
     ⟨by have:=Blk.new (wr.setCell ⟨gP,S.l.length,none⟩ (.string ⟨(S.e++z).toArray⟩)) 113 #[.int .i64 x,.int .i64 y,.string ⟨z.toArray⟩];rw[World.size_setCell] at this;exact this⟩
    have HRS:Hd (Blk (((wr.setCell ⟨gP,S.l.length,none⟩ (.string ⟨(S.e++z).toArray⟩)).alloc (.cells #[.int .i64 x,.int .i64 y,.string ⟨z.toArray⟩] 113)).drew) w.heap.size 234 #[.slice none 0 0,.slice none 0 0]) :=
     ⟨(HRW2.o.far (p:=⟨gP,_,none⟩) (show w.heap.size≠gP by omega) _).alloc _⟩
    have HBS:Hd (Below w.heap.size w (((wr.setCell ⟨gP,S.l.length,none⟩ (.string ⟨(S.e++z).toArray⟩)).alloc (.cells #[.int .i64 x,.int .i64 y,.string ⟨z.toArray⟩] 113)).drew)) :=
     ⟨Qe (Qa (HB.o.setCell (show w.heap.size≤gP by omega) _) _)⟩
    have hpbn:wr.heap.size≠gD:=by omega
    have HS2:Hd (spread (l.take (k+1))=SS.take false x (SS.take true y ⟨S.l,S.e++z⟩)):=⟨by rw[HS.o];simp[SS.step]⟩;go_upto_region 7 with fail
    go_region
    go_wp2_with fail
    go_loopw [6,37] (fun at_ cnt wq=>∃ j:Nat,j≤y∧cnt=.int .i64 j∧at_=.int .i64 ((S.l.length+j:Nat):Int)∧GB wq gG gP gD N ((SS.take true j ⟨S.l,S.e++z⟩).padP N) ((SS.take true j ⟨S.l,S.e++z⟩).padD N)∧Blk wq wr.heap.size 113 #[.int .i64 x,.int .i64 y,.string ⟨z.toArray⟩]∧Blk wq w.heap.size 234 #[.slice none 0 0,.slice none 0 0]∧Below w.heap.size w wq) (fun _ cnt _=>y-(intOf cnt).toNat)
    case atStart=>exact⟨0,by omega,rfl,rfl,HSE.o,HPB.o,HRS.o,HBS.o⟩
    case round =>
     obtain⟨j,hj,rfl,rfl,hgb,hpb,hrw,hbel⟩:=hrel;have hl2:(SS.take true j ⟨S.l,S.e++z⟩).l.length=S.l.length+j:=SS.take_len _ _ _;obtain⟨g0',g1'⟩:=hgb.cells;have HG2:=Hm hgb;have HP2:=Hm hpb;have HR2:=Hm hrw;have HB4:=Hm hbel;have p0:=hpb.cell 0;simp only[Wab,Waa] at p0;have hlt2:=hgb.D.lt;clear HSE HPB HRS HBS g0 g1 q0 q1
     by_cases hjy:j<y
     ·obtain⟨d0,d1⟩:=hgb.cellD (i:=S.l.length+j) (b:=false) (by rw[← hl2];exact SS.padD_at (by omega))
      have HE1:Hd ((SS.take true (j+1) ⟨S.l,S.e++z⟩).padP N=(SS.take true j ⟨S.l,S.e++z⟩).padP N∧(SS.take true (j+1) ⟨S.l,S.e++z⟩).padD N=((SS.take true j ⟨S.l,S.e++z⟩).padD N).set (S.l.length+j) true):=⟨by
       rw[← SS.take_take true j 1]
       exact⟨SS.padP_take _ (by omega),by rw[← hl2];exact (SS.padD_true (by omega)).symm⟩⟩
      clear hgb hpb hrw hbel hl2;go_wp2_with fail
      exact⟨⟨j+1,by omega,by go_num,by go_num,by rw[HE1.o.1,HE1.o.2];exact HG2.o.setD _ _,HP2.o.far (p:=⟨gD,_,none⟩) hpbn _,HR2.o.far (p:=⟨gD,_,none⟩) (show w.heap.size≠gD by omega) _,HB4.o.setCell (show w.heap.size≤gD by omega) _⟩,by simp only[intOf];omega⟩
     ·obtain rfl:j=y:=by omega
      have HE1:Hd ((spread (l.take (k+1))).padP N=(SS.take true j ⟨S.l,S.e++z⟩).padP N∧(spread (l.take (k+1))).padD N=(SS.take true j ⟨S.l,S.e++z⟩).padD N∧(spread (l.take (k+1))).l.length=S.l.length+j+x):=⟨by
       rw[HS2.o]
       exact⟨SS.padP_take _ (by omega),SS.padD_false (by omega),by rw[SS.take_len];omega⟩⟩
      clear hgb hpb hrw hbel hl2;go_wp2_with fail
      exact⟨⟨k+1,S.l.length+j+x,by omega,by go_num,by go_num,HE1.o.2.2,by rw[HE1.o.1,HE1.o.2.1];exact HG2.o,HR2.o,HB4.o⟩,by simp only[intOf];omega⟩
   ·obtain rfl:k=n:=by omega
    rw[show l.take k=l from by rw[← hln,Wbe]] at hlen hgb;have hfl:=Qbf HA.o
    have HF:Hd ((spread l).padP N=(spread l).P∧(spread l).padD N=(spread l).D∧(spread l).l.length=N):=⟨by
     have h2:=HW.o;have h3:(spread l).l.length=N:=by omega
     unfold SS.padP SS.padD;rw[h3,Nat.sub_self];simp⟩
    have HGF:=Hm hgb;obtain⟨g0,g1⟩:=hgb.cells;have r0:=hrw.frozen;have r1:=hrw.cell 0;have r2:=hrw.cell 1;simp only[Wab,Waa,Wae] at r1 r2;clear hgb hrw hbel hlen hfl;go_wp2_with fail;refine HRW2.o.set2 (F:=fun W=>bodyPost _ _ _ Exit.ret _ W) ?_;intro w3 hC3 hB3 _ hfar;have k0:=hC3.cell 0;have k1:=hC3.cell 1;simp only[Wab,Waa,Wae] at k0 k1;refine Waz (v:=.agg #[.slice (some ⟨gP,0,none⟩) (N+1) (N+1),.slice (some ⟨gD,0,none⟩) N N]) (by simp[results,results145,go_sem,k0,k1]) rfl ?_;have hP:Blk w3 gP 9 (strs (spread l).P).toArray:=by have:=HGF.o.P;rw[HF.o.1] at this;exact (hfar gP (by omega)).trans this
    have hD:Blk w3 gD 4 (bools (spread l).D).toArray:=by have:=HGF.o.D;rw[HF.o.2.1] at this;exact (hfar gD (by omega)).trans this
    exact⟨⟨_,_,rfl,Sl.of_blk hP (by simp[strs,SS.P_length,HF.o.2.2]) (by unfold maxLen;omega),Sl.of_blk hD (by simp[bools,SS.D_length,HF.o.2.2]) (by unfold maxLen;omega)⟩,HB.o.trans (hB3 _ (Wak _))⟩
end
end Go.Proofs.YtdgdajnbkfmijaaGreatDoor
