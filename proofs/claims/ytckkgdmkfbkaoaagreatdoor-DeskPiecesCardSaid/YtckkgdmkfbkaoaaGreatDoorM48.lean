/- Texts of the proof. -/
import Derived.Test.YtckkgdmkfbkaoaaGreatDoorM47
import Derived.Test.YtckkgdmkfbkaoaaGreatDoorM45
import Derived.Lib.FieldsP
import Derived.Lib.AtoiAll
import Derived.Lib.Join
import Derived.Lib.Small
import Derived.Lib.ItoaLen
import Derived.Lib.RuneCount
namespace Go.Proofs.YtckkgdmkfbkaoaaGreatDoor
set_option maxRecDepth 100000
set_option maxHeartbeats 32000000
set_option linter.all false
section
open Go.RowKit
abbrev Bs:=U.Bs
noncomputable def spl (s:Bs):List Int × Bs:=(Classical.choose (U.sp_exists s),Classical.choose (Classical.choose_spec (U.sp_exists s)))
theorem YD (s:Bs):U.Sp s (spl s).1 (spl s).2:=Classical.choose_spec (Classical.choose_spec (U.sp_exists s))
def Qx (s:Bs):Option Int:=match Lib.atoiAll s with | .ok v=>if Lib.itoa v=s then some v else none | _=>none
def QG:List Bs→Option (List Int)
 | []=>some []
 | s :: l=>match Qx s with | none=>none | some n=>(match QG l with | none=>none | some r=>some (n :: r))
def plB (b:UInt8):UInt8:=if b=95 then 32 else if b=47 then 10 else b
def tlB (b:UInt8):UInt8:=if b=32 then 95 else if b=10 then 47 else b
def Qj (s:Bs):Bs:=if s=[45] then [] else s.map plB
def Zx (s:Bs):Bs:=if s=[] then [45] else s.map tlB
def Zy (l:List Int):Bs:=Lib.join (l.map Lib.itoa) [32]
def YE:Bs→Option PT
 | []=>none
 | c :: t=>if c=107 then (match Qx t with | none=>none | some n=>some ⟨n,0,[]⟩)
  else if c=100 then (match Qx t with | none=>none | some n=>some ⟨0,n,[]⟩)
  else if c=112 then some ⟨0,0,Qj t⟩ else none
def opW:List Bs→Option (List PT)
 | []=>some []
 | s :: l=>match YE s with | none=>none | some p=>(match opW l with | none=>none | some r=>some (p :: r))
abbrev Cm:=Int × Bs × RM
def no (e:Int)(R:RM):Cm:=(e,[],R)
open Classical in
noncomputable def Zz (R:RM):List Bs→Cm
 | []=>no 3 R
 | t :: l=>match QG l with
  | none=>no 3 R
  | some us =>
   if (spl (Qj t)).2≠[] then no 3 R
   else if 2000<bl (spl (Qj t)).1 then no 12 R
   else if 6<us.length then no 4 R
   else if ∃ u∈us,¬ (1≤u∧u≤3) then no 1 R
   else (0,[98,101,103,105,110],RM.new (spl (Qj t)).1 us)
noncomputable def QO (R:RM)(s:Bs)(f:Nat→CV→Cm):Cm :=
 match Qx s with
 | none=>no 3 R
 | some k=>if k<0 then no 2 R else match R.cl[k.toNat]? with | none=>no 2 R | some C=>f k.toNat C
noncomputable def Yf (R:RM):List Bs→Cm
 | []=>no 3 R
 | t :: l=>match opW l with
  | none=>no 3 R
  | some op=>QO R t fun k C=>((C.edit op).1,(if (C.edit op).1=0 then [101,100,105,116] else []),R.edit k op)
noncomputable def QD (R:RM)(s:Bs)(a:Bs)(f:Nat→RM):Cm :=
 match Qx s with
 | none=>no 3 R
 | some i=>if i<0∨(R.way.length:Int)≤i then no 2 R else (0,a,f i.toNat)
def Qn (R:RM)(f:Bs→Cm):List Bs→Cm
 | [s]=>f s
 | _=>no 3 R
def Z0 (R:RM)(c:Cm):List Bs→Cm
 | []=>c
 | _=>no 3 R
noncomputable def ZV (R:RM)(s:Bs):Cm :=
 if (spl (Qj s)).2≠[] then no 3 R else (0,Zy [(cnt (spl (Qj s)).1).b,(cnt (spl (Qj s)).1).h,(cnt (spl (Qj s)).1).r,(cnt (spl (Qj s)).1).l],R)
open Classical in
noncomputable def Zb (u at_:Int)(Q:List Int):Int × Int × Int :=
 if h:∃ x:Int × Int × Int,YN u at_ Q x.2.1 x.2.2 (erV x.1) then Classical.choose h else (0,0,0)
theorem Qc6 {u at_ l col k:Int}{Q:List Int}(h:YN u at_ Q l col (erV k)):Zb u at_ Q=(k,l,col):=by
 have hx:∃ x:Int × Int × Int,YN u at_ Q x.2.1 x.2.2 (erV x.1):=⟨(k,l,col),h⟩;unfold Zb;rw[dif_pos hx];obtain⟨e1,e2,e3⟩:=(Classical.choose_spec hx).unique h;have e3:=Xw e3;generalize Classical.choose hx=x at *;obtain⟨a,b,c⟩:=x;dsimp only at e1 e2 e3;subst e1 e2 e3
 rfl
open Classical in
noncomputable def Z7 (u n col:Int)(Q:List Int):Int × Int :=
 if h:∃ x:Int × Int,YO u n col Q x.2 (erV x.1) then Classical.choose h else (0,0)
theorem Qc7 {u n col x k:Int}{Q:List Int}(h:YO u n col Q x (erV k)):Z7 u n col Q=(k,x):=by
 have hx:∃ x:Int × Int,YO u n col Q x.2 (erV x.1):=⟨(k,x),h⟩;unfold Z7;rw[dif_pos hx];obtain⟨e1,e2⟩:=(Classical.choose_spec hx).unique h;have e2:=Xw e2;generalize Classical.choose hx=x at *;obtain⟨a,b⟩:=x;dsimp only at e1 e2;subst e1 e2
 rfl
noncomputable def Yg (R:RM)(s:Bs)(f:List Int→Cm):Cm :=
 if (spl (Qj s)).2≠[] then no 3 R else if 8000<bl (spl (Qj s)).1 then no 12 R else f (spl (Qj s)).1
noncomputable def Z8 (R:RM):List Bs→Cm
 | [s,u,a]=>match QG [u,a] with
  | some [u,a]=>Yg R s fun Q=>if (Zb u a Q).1≠0 then no (Zb u a Q).1 R else (0,Zy [(Zb u a Q).2.1,(Zb u a Q).2.2],R)
  | _=>no 3 R
 | _=>no 3 R
noncomputable def Zp (R:RM):List Bs→Cm
 | [s,u,n,c]=>match QG [u,n,c] with
  | some [u,n,c]=>Yg R s fun Q=>if (Z7 u n c Q).1≠0 then no (Z7 u n c Q).1 R else (0,Lib.itoa (Z7 u n c Q).2,R)
  | _=>no 3 R
 | _=>no 3 R
def Qam:Bs:=[98,101,103,105,110]
def Xq:Bs:=[99,111,117,110,116]
def Yr:Bs:=[100,101,108,105,118,101,114]
def Qan:Bs:=[101,100,105,116]
def Qao:Bs:=[104,101,108,112]
def Yt:Bs:=[108,111,115,101]
def Qap:Bs:=[109,97,110,121]
def Qaq:Bs:=[112,108,97,99,101]
def Xr:Bs:=[113,117,105,101,116]
def Qar:Bs:=[114,101,118]
def Qas:Bs:=[115,101,101,110]
def Yh:Bs:=[115,101,110,100]
def Qat:Bs:=[115,101,114,118,101,114]
def Qau:Bs:=[115,112,111,116]
def Qav:Bs:=[116,101,120,116]
def Yu:Bs:=[116,119,105,99,101]
def Ju:Bs:=Lib.join [Qam,Xq,Yr,Qan,Qao,Yt,Qap,Qaq,Xr,Qar,Qas,Yh,Qat,Qau,Qav,Yu] [32]
noncomputable def XD (C:CV):Bs:=Zy [(C.rev:Int),C.dropped]++[32]++Lib.formatBool C.has
noncomputable def XV (R:RM):Bs:=Zy [(R.srv.log.length:Int)]++[32]++Zx R.srv.doc
inductive Kw | begin | count | deliver | edit | help | lose | many | place | quiet | rev | seen | send | server | spot | text | twice
 deriving DecidableEq
def Jv (s:Bs):Option Kw :=
 if s=Qam then some .begin else if s=Xq then some .count else if s=Yr then some .deliver else if s=Qan then some .edit
 else if s=Qao then some .help else if s=Yt then some .lose else if s=Qap then some .many else if s=Qaq then some .place
 else if s=Xr then some .quiet else if s=Qar then some .rev else if s=Qas then some .seen else if s=Yh then some .send
 else if s=Qat then some .server else if s=Qau then some .spot else if s=Qav then some .text else if s=Yu then some .twice else none
noncomputable def kwW (R:RM)(l:List Bs):Kw→Cm
 | .begin=>Zz R l
 | .count=>Qn R (ZV R) l
 | .deliver=>Qn R (fun s=>QD R s Yr R.deliver) l
 | .edit=>Yf R l
 | .help=>Z0 R (0,Ju,R) l
 | .lose=>Qn R (fun s=>QD R s Yt R.out) l
 | .many=>Z0 R (0,Lib.itoa R.way.length,R) l
 | .place=>Zp R l
 | .quiet=>Z0 R (0,Xr,R.quiet) l
 | .rev=>Qn R (fun s=>QO R s fun _ C=>(0,XD C,R)) l
 | .seen=>Qn R (fun s=>QO R s fun _ C=>(0,Zx (U.encs C.seen),R)) l
 | .send=>Qn R (fun s=>QO R s fun k _=>(0,Yh,R.asks k)) l
 | .server=>Z0 R (0,XV R,R) l
 | .spot=>Z8 R l
 | .text=>Qn R (fun s=>QO R s fun _ C=>(0,Zx (U.encs C.doc),R)) l
 | .twice=>Qn R (fun s=>QD R s Yu R.again) l
noncomputable def Z4 (R:RM)(name:Bs)(l:List Bs):Cm:=match Jv name with | none=>no 3 R | some k=>kwW R l k
def QY (s:Bs):List Bs:=(Lib.goFieldsP (fun n=>n == 32) ⟨s.toArray⟩).map (·.data.toList)
def YF (c:Cm):Bs:=if c.1=0 then c.2.1 else [101,114,114,111,114,32]++Lib.itoa c.1
noncomputable def Qr0 (R:RM):List Bs→Bs × RM
 | []=>([111,107],R)
 | n :: l=>(YF (Z4 R n l),(Z4 R n l).2.2)
noncomputable def QT (R:RM)(s:Bs):Bs × RM:=Qr0 R (QY s)
def Ql:Bs→List Bs
 | []=>[[]]
 | b :: s=>if b=10 then [] :: Ql s else match Ql s with | []=>[[b]] | l :: t=>(b :: l) :: t
def QA (s:Bs):Bs:=if s.getLast?=some 10 then s.dropLast else s
noncomputable def QR:RM→List Bs→Bs × RM
 | R,[]=>([],R)
 | R,s :: l=>((QT R s).1++[10]++(QR (QT R s).2 l).1,(QR (QT R s).2 l).2)
noncomputable def Xt:RM:=RM.new [] [1,2,3]
noncomputable def Yi (s:Bs):Bs:=if 20000<s.length then [101,114,114,111,114,32,52,10] else (QR Xt (Ql (QA s))).1
theorem Qhe (R:RM)(a b:List Bs):(QR R (a++b)).1=(QR R a).1++(QR (QR R a).2 b).1:=by
 induction a generalizing R with
 | nil=>simp[QR]
 | cons s l ih=>simp[QR,ih,Wah]
theorem Jw (s:Bs):Ql s≠[]:=by
 cases s with
 | nil=>simp[Ql]
 | cons b s=>unfold Ql;split<;>(try split)<;>simp
theorem Qr1 (a b:Bs):Ql (a++10 :: b)=Ql a++Ql b:=by
 induction a with
 | nil=>simp[Ql]
 | cons x a ih =>
  simp only[Wap,Ql,ih]
  split
  ·rfl
  ·cases h:Ql a with
   | nil=>exact absurd h (Jw a)
   | cons l t=>rfl
theorem Qr2 {a b:Bs}(h:a.length+1+b.length≤20000):∃ t,Yi (a++10 :: b)=Yi (a++[10])++t:=by
 have e1:Yi (a++[10])=(QR Xt (Ql a)).1:=by
  unfold Yi QA;rw[if_neg (by simp;omega),if_pos (by simp),List.dropLast_concat]
 rw[e1]
 cases hb:b with
 | nil=>exact⟨[],by rw[e1,Wam]⟩
 | cons x c =>
  have e2:QA (a++10 :: x :: c)=a++10 :: QA (x :: c):=by
   unfold QA
   have e3:(a++10 :: x :: c).getLast?=(x :: c).getLast?:=by
    rw[show a++10 :: x :: c=(a++[10])++(x :: c) from by simp,List.getLast?_append];simp[List.getLast?_cons]
   rw[e3]
   split
   ·rw[show a++10 :: x :: c=(a++[10])++(x :: c) from by simp,List.dropLast_append_of_ne_nil (by simp)];simp
   ·rfl
  refine⟨(QR (QR Xt (Ql a)).2 (Ql (QA (x :: c)))).1,?_⟩
  have e4:Yi (a++10 :: x :: c)=(QR Xt (Ql (QA (a++10 :: x :: c)))).1:=by
   unfold Yi;rw[if_neg (by subst hb;simp at h ⊢;omega)]
  rw[e4,e2,Qr1,Qhe]
end
section
open Go.RowKit
theorem Quw (s:Bs):(Lib.indexByte s 10=-1∧Ql s=[s])∨∃ i:Nat,Lib.indexByte s 10=i∧i<s.length∧Ql s=s.take i :: Ql (s.drop (i+1)):=by
 induction s with
 | nil=>exact .inl ⟨rfl,rfl⟩
 | cons b s ih =>
  by_cases hb:b=10
  ·subst hb;refine .inr ⟨0,?_,by simp,?_⟩
   ·unfold Lib.indexByte;rfl
   ·rw[Ql,if_pos rfl];rfl
  ·have hb':(b == 10)=false:=by simpa using hb
   rcases ih with ⟨h1,h2⟩ | ⟨i,h1,h2,h3⟩
   ·refine .inl ⟨?_,?_⟩
    ·unfold Lib.indexByte;rw[hb',h1];rfl
    ·rw[Ql,if_neg hb,h2]
   ·refine .inr ⟨i+1,?_,by simp;omega,?_⟩
    ·unfold Lib.indexByte;rw[hb',h1]
     have:((i:Int) == -1)=false:=by rw[Waf];omega
     rw[this];simp
    ·rw[Ql,if_neg hb,h3];rfl
theorem Qux {s t:Bs}{k:Nat}(h:(Ql s).drop k=Ql t):(Lib.indexByte t 10=-1∧(Ql s)[k]?=some t∧(Ql s).length=k+1) ∨
  ∃ i:Nat,Lib.indexByte t 10=i∧i<t.length∧(Ql s)[k]?=some (t.take i)∧(Ql s).drop (k+1)=Ql (t.drop (i+1))∧k+1<(Ql s).length:=by
 have hl:(Ql s)[k]?=(Ql t)[0]?:=by rw[← h,List.getElem?_drop];rfl
 have hn:((Ql s).drop k).length=(Ql t).length:=by rw[h]
 rw[War] at hn;rcases Quw t with ⟨h1,h2⟩ | ⟨i,h1,h2,h3⟩
 ·refine .inl ⟨h1,by rw[hl,h2];rfl,?_⟩;rw[h2] at hn;simp at hn;omega
 ·refine .inr ⟨i,h1,h2,by rw[hl,h3];rfl,?_,?_⟩
  ·rw[← List.drop_drop,h,h3];rfl
  ·rw[h3] at hn
   have:=Wax.2 (Jw (t.drop (i+1)))
   simp at hn;omega
theorem Quy (s:Bs):(Ql s).length≤s.length+1:=by
 induction s with
 | nil=>simp[Ql]
 | cons b s ih =>
  rw[Ql]
  split
  ·simp;omega
  ·split
   ·simp
   ·rename_i h;rw[h] at ih;simp at ih ⊢;omega
theorem Quz (s:Bs):((Ql s).map List.length).sum+(Ql s).length=s.length+1:=by
 induction s with
 | nil=>simp[Ql]
 | cons b s ih =>
  rw[Ql]
  split
  ·simp;omega
  ·cases h:Ql s with
   | nil=>exact absurd h (Jw s)
   | cons l t=>rw[h] at ih;simp at ih ⊢;omega
theorem Qu0 {l:List Nat}{n:Nat}(h:n∈l):n≤l.sum:=by
 induction l with
 | nil=>cases h
 | cons a l ih =>
  rw[List.sum_cons];rcases Wbk.1 h with rfl | h
  ·omega
  ·have:=ih h;omega
theorem Qi2 {s l:Bs}(h:l∈Ql s):l.length≤s.length:=by
 have h1:=Quz s;have h2:=Wax.2 (Jw s)
 have:l.length≤((Ql s).map List.length).sum:=Qu0 (List.mem_map_of_mem h)
 omega
end
section
open Go.RowKit
theorem JU {p:List Int}(h:p.length≤8000)(u:Int):(0≤(cnt p).of u∧(cnt p).of u≤32000)∧(0≤(cnt p).l∧(cnt p).l≤32000):=by
 have h1:=QJ p u;have h2:=of_le (rs:=p) h u;obtain⟨⟨b0,b1,h0,h1',r0,r1,l0,l1⟩,-,-⟩:=Zk p;omega
theorem Q3.val {u a:Int}{Q:List Int}{c:Cn}{er:Value}(h:Q3 u a Q c er):(er=.nilIface∧Pl u a Q c)∨∃ k,er=errno k∧1≤k∧k≤10:=by
 obtain⟨h1,h2,h3⟩:=h
 by_cases hu:u<1∨3<u
 ·exact .inr ⟨1,(h1 hu).2,by omega,by omega⟩
 by_cases ha:a<0∨(cnt Q).of u<a
 ·exact .inr ⟨2,(h2 hu ha).2,by omega,by omega⟩
 rcases h3 hu ha with h | h
 ·exact .inl h
 ·exact .inr ⟨10,h.1,by omega,by omega⟩
theorem YN.bd {u a l col:Int}{Q:List Int}{er:Value}(hb:bl Q≤8000)(h:YN u a Q l col er) :
  (∃ k,er=erV k∧0≤k∧k≤10)∧(-100000≤l∧l≤100000)∧(-100000≤col∧col≤100000):=by
 have hql:=QB Q;obtain⟨c,h1,h2,h3⟩:=h;rcases h1.val with ⟨rfl,p,q,rfl,hp,rfl⟩ | ⟨k,rfl,hk1,hk2⟩
 ·obtain⟨lc,⟨p',q',e1,-,rfl,-⟩,rfl,rfl⟩:=h2 rfl;have b1:=JU (p:=p) (by rw[Wad] at hql;omega) u;have b2:=JU (p:=p') (by rw[e1,Wad] at hql;rw[← e1] at hql;omega) u
  exact⟨⟨0,rfl,by omega,by omega⟩,by omega,by omega⟩
 ·obtain⟨rfl,rfl⟩:=h3 (by simp[errno])
  exact⟨⟨k,(ZN (by omega)).symm,by omega,by omega⟩,by omega,by omega⟩
theorem YO.bd {u n col x:Int}{Q:List Int}{er:Value}(hb:bl Q≤8000)(h:YO u n col Q x er) :
  (∃ k,er=erV k∧0≤k∧k≤10)∧(-100000≤x∧x≤100000):=by
 have hql:=QB Q;obtain⟨h1,h2,h3⟩:=h
 by_cases hu:u<1∨3<u
 ·obtain⟨rfl,rfl⟩:=h1 hu
  exact⟨⟨1,rfl,by omega,by omega⟩,by omega⟩
 by_cases hn:n<0∨(cnt Q).l<n
 ·obtain⟨rfl,rfl⟩:=h2 hu hn
  exact⟨⟨2,rfl,by omega,by omega⟩,by omega⟩
 obtain⟨p,ln,tl,D,a1,a2⟩:=h3 hu hn;have hq:Q.length=p.length+(ln.length+tl.length):=by rw[D.eq];simp
 by_cases hc:col<0∨(cnt ln).of u<col
 ·obtain⟨rfl,rfl⟩:=a1 hc
  exact⟨⟨2,rfl,by omega,by omega⟩,by omega⟩
 obtain⟨c,c1,c2,c3⟩:=a2 hc;have b1:=JU (p:=p) (by omega) u;have b2:=JU (p:=ln) (by omega) u;rcases c1.val with ⟨rfl,-⟩ | ⟨k,rfl,hk1,hk2⟩
 ·obtain rfl:=c2 rfl
  exact⟨⟨0,rfl,by omega,by omega⟩,by omega⟩
 ·obtain rfl:=c3 (by simp[errno])
  exact⟨⟨k,(ZN (by omega)).symm,by omega,by omega⟩,by omega⟩
structure RMs (n:Nat)(R:RM):Prop where
 b:RMb (n:Nat) ((n:Nat)*100000) R
 cl:R.cl.length≤6
theorem RMs.play {n:Nat}{R R':RM}{q:Bool}(h:RMs n R)(hp:PlayS R q R'):RMs (n+1) R':=by
 obtain⟨h1,h2⟩:=hp.ok h.b (by have:=h.cl;omega)
 exact⟨h1.mono (by omega) (by omega),by rw[h2];exact h.cl⟩
theorem RMs.same {n:Nat}{R:RM}(h:RMs n R):RMs (n+1) R:=h.play (.same true)
theorem RMs.new {n:Nat}{Q us:List Int}(hQ:U.AllR Q)(hb:bl Q≤2000)(hl:us.length≤6)(hu:∀ u∈us,1≤u∧u≤3):RMs n (RM.new Q us):=by
 obtain⟨h1,h2⟩:=RMok.new hQ hb hu;refine⟨⟨h1.mono (by omega),h2,Wba _,?_⟩,?_⟩
 ·show ((0:Nat):Int)+0+((0:Nat):Int)≤_
  omega
 ·unfold RM.new;simp[hl]
theorem ZR:(0:Int)≤0∧(0:Int)≤100:=by decide
structure CmOk (n:Nat)(c:Cm):Prop where
 e:0≤c.1∧c.1≤100
 l:c.2.1.length≤10000
 r:RMs n c.2.2
theorem CmOk.no {n:Nat}{R:RM}{e:Int}(h:RMs n R)(h0:0≤e)(h1:e≤100):CmOk (n+1) (no e R):=⟨⟨h0,h1⟩,by simp[Go.Proofs.YtckkgdmkfbkaoaaGreatDoor.no],h.same⟩
theorem Ql1 {n:Nat}{R:RM}(h:RMs n R)(l:List Bs):CmOk (n+1) (Zz R l):=by
 cases l with
 | nil=>exact .no h (by omega) (by omega)
 | cons t l =>
  simp only[Zz]
  split
  ·exact .no h (by omega) (by omega)
  split
  ·exact .no h (by omega) (by omega)
  split
  ·exact .no h (by omega) (by omega)
  split
  ·exact .no h (by omega) (by omega)
  split
  ·exact .no h (by omega) (by omega)
  ·rename_i h1 h2 h3 h4
   refine⟨ZR,by simp,RMs.new (YD _).all (by omega) (by omega) ?_⟩;intro u hu;exact Classical.not_not.1 (fun hh=>h4 ⟨u,hu,hh⟩)
theorem Jk {n:Nat}{R:RM}(h:RMs n R)(s:Bs){f:Nat→CV→Cm}(hf:∀ k C,R.cl[k]?=some C→CmOk (n+1) (f k C)):CmOk (n+1) (QO R s f):=by
 unfold QO
 split
 ·exact .no h (by omega) (by omega)
 split
 ·exact .no h (by omega) (by omega)
 split
 ·exact .no h (by omega) (by omega)
 ·rename_i hC;exact hf _ _ hC
theorem Ql2 (u a:Int)(R:List Int):0≤(ah u a R).2∧(ah u a R).2≤10:=by
 by_cases hx:∃ x:Cn × Int,Q3 u a R x.1 (erV x.2)
 ·obtain⟨⟨c,k⟩,hx⟩:=hx;rw[Qdg hx];rcases hx.val with ⟨e,-⟩ | ⟨k',e,h1,h2⟩
  ·have:k=0:=Xw (e.trans rfl:erV k=erV 0)
   subst this
   exact⟨by simp,by simp⟩
  ·rw[← ZN (by omega)] at e
   have:=Xw e
   subst this
   exact⟨by dsimp only;omega,h2⟩
 ·unfold ah;rw[dif_neg hx]
  exact⟨by decide,by decide⟩
theorem Ql3 (R:List Int)(u tu:Int)(l:List PT):∀ (c:Cn) (a:Int),0≤(tnF R u tu c a l).2∧(tnF R u tu c a l).2≤10:=by
 induction l with
 | nil=>intro c a;exact⟨by simp[tnF],by simp[tnF]⟩
 | cons p l ih =>
  intro c a;rw[tnF]
  split
  ·exact ih _ _
  ·exact Ql2 _ _ _
theorem Ql4 (l:List PT):∀ n:Int,0≤e2 n l∧e2 n l≤2:=by
 induction l with
 | nil=>intro n;unfold e2;split<;>decide
 | cons p l ih=>intro n;unfold e2;split;exact⟨by decide,by decide⟩;exact ih _
theorem Ql5 (l:List PT)(n:Int):0≤chk l n∧chk l n≤3:=by
 unfold chk
 split
 ·have:=Ql4 l n;omega
 ·induction l with
  | nil=>exact⟨by decide,by decide⟩
  | cons p l ih =>
   rename_i h
   rw[e1] at h ⊢
   split
   ·decide
   ·rename_i h1
    rw[if_neg h1] at h
    split
    ·decide
    ·rename_i h2
     rw[if_neg h2] at h;exact ih h
theorem Ql6 (C:CV)(l:List PT):0≤(C.edit l).1∧(C.edit l).1≤100:=by
 have ht:0≤(tnc C.doc l C.unit 1).2∧(tnc C.doc l C.unit 1).2≤10:=by
  unfold tnc
  split
  ·decide
  split
  ·have:=Ql5 l ((cnt C.doc).of C.unit);dsimp only;omega
  ·exact Ql3 _ _ _ _ _ _
 unfold CV.edit
 split
 ·simp
 split
 ·dsimp only;omega
 split<;>simp
theorem Ql7 {n:Nat}{R:RM}(h:RMs n R)(l:List Bs):CmOk (n+1) (Yf R l):=by
 cases l with
 | nil=>exact .no h (by omega) (by omega)
 | cons t l =>
  simp only[Yf]
  split
  ·exact .no h (by omega) (by omega)
  ·refine Jk h _ ?_;intro k C hC
   exact⟨Ql6 _ _,by dsimp only;split<;>decide,h.play (.edit k _ true)⟩
theorem Qb6 {n:Nat}{R:RM}(h:RMs n R)(s a:Bs)(ha:a.length≤10000){f:Nat→RM}(hf:∀ i,PlayS R true (f i)):CmOk (n+1) (QD R s a f):=by
 unfold QD
 split
 ·exact .no h (by omega) (by omega)
 split
 ·exact .no h (by omega) (by omega)
 ·exact⟨ZR,ha,h.play (hf _)⟩
theorem Xz {n:Nat}{R:RM}(h:RMs n R){f:Bs→Cm}(hf:∀ s,CmOk (n+1) (f s))(l:List Bs):CmOk (n+1) (Qn R f l):=by
 unfold Qn
 split
 ·exact hf _
 ·exact .no h (by omega) (by omega)
theorem JV {n:Nat}{R:RM}(h:RMs n R){c:Cm}(hf:CmOk (n+1) c)(l:List Bs):CmOk (n+1) (Z0 R c l):=by
 unfold Z0
 split
 ·exact hf
 ·exact .no h (by omega) (by omega)
theorem Ql8 {l:List Bs}{m:Nat}(h:∀ s∈l,s.length≤m):(Lib.join l [32]).length≤l.length*(m+1):=by
 unfold Lib.join
 induction l with
 | nil=>simp[List.intercalate]
 | cons a l ih =>
  have ha:=h a (by simp)
  cases l with
  | nil=>simp[List.intercalate];omega
  | cons b l =>
   have:=ih (fun s hs=>h s (by simp[hs]))
   rw[show [32].intercalate (a :: b :: l)=a++[32]++[32].intercalate (b :: l) from by simp[List.intercalate]];simp only[Wad,Wan,List.length_nil] at this ⊢;rw[Nat.add_mul];omega
theorem X3 {l:List Int}(h:∀ n∈l,-9223372036854775808≤n∧n≤9223372036854775807):(Zy l).length≤l.length*22:=by
 unfold Zy
 have:=Ql8 (l:=l.map Lib.itoa) (m:=21) (fun s hs=>by
  obtain⟨n,hn,rfl⟩:=List.mem_map.1 hs;exact Lib.itoa_length_le n (h n hn).1 (h n hn).2)
 rwa [Wbi] at this
theorem JW (s:Bs):(Zx s).length≤s.length+1:=by
 unfold Zx
 split<;>simp
theorem RMs.seen {n:Nat}{R:RM}(h:RMs n R){k:Nat}{C:CV}(hC:R.cl[k]?=some C):bl C.seen≤2000∧bl C.doc≤6000∧C.rev≤300∧0≤C.dropped∧C.dropped≤n:=by
 have hk:=h.b.ok.cl k C hC;have h1:=hk.ok.sz;have h2:=hk.ok.doc_.2;have h3:=hk.rev;have h4:=h.b.ok.ln;have h5:=hk.ok.dr
 split at h5<;>exact⟨h1,h2,by omega,by omega,by omega⟩
theorem SVok.doc_le {S:SV}(h:SVok S):S.doc.length≤2000:=by
 unfold SV.doc
 cases hd:S.docs[S.log.length]? with
 | none=>simp
 | some d =>
  obtain⟨Q,-,rfl,hb⟩:=h.txt d (List.mem_of_getElem? hd);exact hb
theorem Ql9 {n:Nat}{R:RM}(h:RMs n R)(hn:n≤1000000){k:Nat}{C:CV}(hC:R.cl[k]?=some C):(XD C).length≤10000:=by
 obtain⟨-,-,h1,h2,h3⟩:=h.seen hC
 have:=X3 (l:=[(C.rev:Int),C.dropped]) (fun m hm=>by
  simp at hm;rcases hm with rfl | rfl<;>omega)
 unfold XD;have h4:(Lib.formatBool C.has).length≤5:=by cases C.has<;>decide
 simp only[Wad,Wan,List.length_nil] at this ⊢;omega
theorem Qma {n:Nat}{R:RM}(h:RMs n R):(XV R).length≤10000:=by
 have h1:=h.b.ok.ln;have h2:=h.b.ok.sv.doc_le;have h3:=JW R.srv.doc
 have:=X3 (l:=[(R.srv.log.length:Int)]) (fun m hm=>by
  simp at hm;subst hm;omega)
 unfold XV;simp only[Wad,Wan,List.length_nil] at this ⊢;omega
theorem Qe2 (s:Bs):(spl s).1.length≤s.length:=by
 have h:=(YD s).length;have h2:=U.len_le_off (spl s).1;omega
theorem Qmb {n:Nat}{R:RM}(h:RMs n R){s:Bs}(hs:s.length≤1000000):CmOk (n+1) (ZV R s):=by
 unfold ZV
 split
 ·exact .no h (by omega) (by omega)
 ·refine⟨ZR,?_,h.same⟩;have hp:(Qj s).length≤1000000:=by unfold Qj;split<;>simp;exact hs
  have hl:=Qe2 (Qj s);obtain⟨⟨b0,b1,h0,h1,r0,r1,l0,l1⟩,-,-⟩:=Zk (spl (Qj s)).1
  have:=X3 (l:=[(cnt (spl (Qj s)).1).b,(cnt (spl (Qj s)).1).h,(cnt (spl (Qj s)).1).r,(cnt (spl (Qj s)).1).l]) (fun m hm=>by
   simp at hm;rcases hm with rfl | rfl | rfl | rfl<;>omega)
  simp only[Wan,List.length_nil] at this ⊢;omega
theorem Qe3 {n:Nat}{R:RM}(h:RMs n R)(s:Bs){f:List Int→Cm}(hf:∀ Q,U.AllR Q→bl Q≤8000→CmOk (n+1) (f Q)):CmOk (n+1) (Yg R s f):=by
 unfold Yg
 split
 ·exact .no h (by omega) (by omega)
 split
 ·exact .no h (by omega) (by omega)
 ·exact hf _ (YD _).all (by omega)
theorem Qmc (u a:Int){Q:List Int}(hb:bl Q≤8000):(0≤(Zb u a Q).1∧(Zb u a Q).1≤10)∧(-100000≤(Zb u a Q).2.1∧(Zb u a Q).2.1≤100000)∧(-100000≤(Zb u a Q).2.2∧(Zb u a Q).2.2≤100000):=by
 by_cases hx:∃ x:Int × Int × Int,YN u a Q x.2.1 x.2.2 (erV x.1)
 ·obtain⟨⟨k,l,col⟩,hx⟩:=hx;rw[Qc6 hx];obtain⟨⟨k',e,h1,h2⟩,h3,h4⟩:=hx.bd hb
  have:=Xw e
  subst this
  exact⟨⟨h1,h2⟩,h3,h4⟩
 ·unfold Zb;rw[dif_neg hx];simp
theorem Qmd (u m c:Int){Q:List Int}(hb:bl Q≤8000):(0≤(Z7 u m c Q).1∧(Z7 u m c Q).1≤10)∧(-100000≤(Z7 u m c Q).2∧(Z7 u m c Q).2≤100000):=by
 by_cases hx:∃ x:Int × Int,YO u m c Q x.2 (erV x.1)
 ·obtain⟨⟨k,x⟩,hx⟩:=hx;rw[Qc7 hx];obtain⟨⟨k',e,h1,h2⟩,h3⟩:=hx.bd hb
  have:=Xw e
  subst this
  exact⟨⟨h1,h2⟩,h3⟩
 ·unfold Z7;rw[dif_neg hx];simp
theorem Qme {n:Nat}{R:RM}(h:RMs n R)(l:List Bs):CmOk (n+1) (Z8 R l):=by
 unfold Z8
 split
 ·split
  ·refine Qe3 h _ (fun Q _ hb=>?_)
   rename_i u a _ _
   obtain⟨h1,h2,h3⟩:=Qmc u a hb
   split
   ·exact .no h (by omega) (by omega)
   ·refine⟨ZR,?_,h.same⟩
    have:=X3 (l:=[(Zb u a Q).2.1,(Zb u a Q).2.2]) (fun m hm=>by
     simp at hm;rcases hm with rfl | rfl<;>omega)
    simp only[Wan,List.length_nil] at this ⊢;omega
  ·exact .no h (by omega) (by omega)
 ·exact .no h (by omega) (by omega)
theorem Qmf {n:Nat}{R:RM}(h:RMs n R)(l:List Bs):CmOk (n+1) (Zp R l):=by
 unfold Zp
 split
 ·split
  ·refine Qe3 h _ (fun Q _ hb=>?_)
   rename_i u m c _ _
   obtain⟨h1,h2⟩:=Qmd u m c hb
   split
   ·exact .no h (by omega) (by omega)
   ·refine⟨ZR,?_,h.same⟩
    have:=Lib.itoa_length_le (Z7 u m c Q).2 (by omega) (by omega)
    dsimp only;omega
  ·exact .no h (by omega) (by omega)
 ·exact .no h (by omega) (by omega)
theorem Qe4 {n:Nat}{R:RM}(h:RMs n R)(hn:n≤1000000){l:List Bs}(hl:∀ s∈l,s.length≤1000000)(k:Kw):CmOk (n+1) (kwW R l k):=by
 cases k with
 | begin=>exact Ql1 h l
 | count =>
  show CmOk (n+1) (Qn R (ZV R) l)
  unfold Qn
  split
  ·exact Qmb h (hl _ (Wbd.2 rfl))
  ·exact .no h (by omega) (by omega)
 | deliver=>exact Xz h (fun s=>Qb6 h s _ (by decide) (fun i=>.deliver i true)) l
 | edit=>exact Ql7 h l
 | help=>exact JV h ⟨ZR,(by decide:Ju.length≤10000),h.same⟩ l
 | lose=>exact Xz h (fun s=>Qb6 h s _ (by decide) (fun i=>.out i true)) l
 | many =>
  refine JV h ⟨ZR,?_,h.same⟩ l
  have:=h.b.ok.wl
  have:=Lib.itoa_length_le (R.way.length:Int) (by omega) (by omega)
  dsimp only;omega
 | place=>exact Qmf h l
 | quiet=>exact JV h ⟨ZR,(by decide:Xr.length≤10000),h.play .quiet⟩ l
 | rev=>exact Xz h (fun s=>Jk h s (fun k C hC=>⟨ZR,Ql9 h hn hC,h.same⟩)) l
 | seen =>
  refine Xz h (fun s=>Jk h s (fun k C hC=>⟨ZR,?_,h.same⟩)) l;have h1:=(h.seen hC).1;have h2:=JW (U.encs C.seen);unfold bl at h1;dsimp only;omega
 | send=>exact Xz h (fun s=>Jk h s (fun k C hC=>⟨ZR,(by decide:Yh.length≤10000),h.play (.asks k true)⟩)) l
 | server=>exact JV h ⟨ZR,Qma h,h.same⟩ l
 | spot=>exact Qme h l
 | text =>
  refine Xz h (fun s=>Jk h s (fun k C hC=>⟨ZR,?_,h.same⟩)) l;have h1:=(h.seen hC).2.1;have h2:=JW (U.encs C.doc);unfold bl at h1;dsimp only;omega
 | twice=>exact Xz h (fun s=>Qb6 h s _ (by decide) (fun i=>.again i true)) l
theorem Qmg {n:Nat}{R:RM}(h:RMs n R)(hn:n≤1000000){l:List Bs}(hl:∀ s∈l,s.length≤1000000)(name:Bs):CmOk (n+1) (Z4 R name l):=by
 unfold Z4
 split
 ·exact .no h (by omega) (by omega)
 ·exact Qe4 h hn hl _
end
section
open Go.RowKit Go.Sort
def DF (X:Nat→Prop)(r:RP)(j:Nat):Prop:=r.F j∨X j
structure DkR (X:Nat→Prop)(w:World)(D:Nat)(r:RP)(R:RM):Prop where
 rm:RmR w (DF X r) r R
 bx:Blk w D 51 #[.pointer (some ⟨r.a,0,none⟩)]
 ap:¬ r.F D
 gl:Glo w
 lo:∀ j,(j=D∨r.F j∨X j)→9≤j
 dx:¬ X D
 fx:∀ j,r.F j→¬ X j
def DkS (X:Nat→Prop)(D:Nat)(r:RP)(R':RM)(w w':World):Prop:=∃ r':RP,DkR X w' D r' R'∧Only (fun j=>j=D∨r.F j) w w'∧Grow r.F r'.F w.heap.size
section
variable {X X':Nat→Prop}{w w' w1 w2:World}{D:Nat}{r r':RP}{R R':RM}
theorem DkR.ptr (h:DkR X w D r R):w.cell? ⟨D,0,none⟩=some (.pointer (some ⟨r.a,0,none⟩)):=(h.bx.cell 0).trans rfl
theorem DkR.xlt (h:DkR X w D r R){j:Nat}(hj:X j):j<w.heap.size:=h.rm.flt j (.inr hj)
theorem DkR.below (h:DkR X w D r R)(hb:Below w.heap.size w w'):DkR X w' D r R:=⟨h.rm.below hb,h.bx.below hb h.bx.lt,h.ap,h.gl.below hb,h.lo,h.dx,h.fx⟩
theorem DkS.of_below (h:DkR X w D r R)(hb:Below w.heap.size w w'):DkS X D r R w w':=⟨r,h.below hb,Only.of_below hb,Grow.refl _ _⟩
theorem DkR.step (h:DkR X w D r R)(hs:RmS (DF X r) r R' w w'):DkS X D r R' w w':=by
 obtain⟨r',a1,a2,a3,a4,a5⟩:=hs;have hlo:∀ j,r'.F j→9≤j:=fun j hj=>(a4 j hj).elim (fun e=>h.lo j (.inr (.inl e))) (fun e=>Wbf h.gl.lo e)
 refine⟨r',⟨a5 (DF X r') (fun j hj=>hj.elim .inr (fun e=>.inl (.inr e))) (fun _ e=>.inl e),?_,fun e=>(a4 _ e).elim h.ap (fun e=>by have:=h.bx.lt;omega),h.gl.only a3 (fun j hj=>h.lo j (.inr (.inl hj))),fun j hj=>?_,h.dx,fun j hj hx=>(a4 j hj).elim (fun e=>h.fx j e hx) (fun e=>by have:=h.xlt hx;omega)⟩,a3.mono (fun j _ hj=>.inr hj),a4⟩
 ·have:=h.bx.only a3 h.ap
  rw[a1.1];exact this
 ·rcases hj with e | e | e
  ·exact h.lo j (.inl e)
  ·exact hlo j e
  ·exact h.lo j (.inr (.inr e))
theorem DkS.then_below (h:DkS X D r R' w w1)(hb:Below w1.heap.size w1 w2):DkS X D r R' w w2:=by
 obtain⟨r',a1,a2,a3⟩:=h
 exact⟨r',a1.below hb,a2.then_below hb,a3⟩
theorem DkS.from_below (hb:Below w.heap.size w w1)(h:DkS X D r R' w1 w2):DkS X D r R' w w2:=by
 obtain⟨r',a1,a2,a3⟩:=h
 exact⟨r',a1,(Only.of_below hb).trans a2,a3.mono hb.size⟩
theorem DkR.fresh (h:DkR X w D r R)(hb:Below w.heap.size w w1)(hF:∀ j,r'.F j→w.heap.size≤j)(hr:RmR w1 (fun j=>r'.F j∨(X j∨j=D)) r' R')(hw:w2=w1.setCell ⟨D,0,none⟩ (.pointer (some ⟨r'.a,0,none⟩))):DkS X D r R' w w2:=by
 subst hw;have hD:=h.bx.lt;have ho:Only (fun j=>j=D) w1 (w1.setCell ⟨D,0,none⟩ (.pointer (some ⟨r'.a,0,none⟩))):=(Only.refl (fun j=>j=D) w1).setCell (p:=⟨D,0,none⟩) (.inl rfl) _;have hnD:¬ r'.F D:=fun e=>by have:=hF D e;omega
 refine⟨r',⟨?_,(h.bx.below hb hD).put1,hnD,(h.gl.below hb).only ho (fun j e=>h.lo j (.inl e)),fun j hj=>?_,h.dx,fun j hj hx=>by have:=h.xlt hx;have:=hF j hj;omega⟩,(Only.of_below hb).trans (ho.mono (fun j _ e=>.inl e)),fun j hj=>.inr (hF j hj)⟩
 ·exact hr.only ho (fun j e=>.inr (.inr e)) (fun j hj e=>hnD (e ▸ hj)) (fun j hj=>.inl (hj.elim .inl (fun e=>.inr (.inl e)))) (fun _ e=>.inl e) (fun j hj=>Wal (hj.elim (fun e=>hr.lt j e) (fun e=>Wal (h.xlt e) hb.size)) ho.size)
 ·rcases hj with e | e | e
  ·exact h.lo j (.inl e)
  ·exact Wbf h.gl.lo (hF j e)
  ·exact h.lo j (.inr (.inr e))
theorem DkR.aside (h:DkR X w D r R){S:Nat→Prop}(ho:Only S w w')(hS:∀ j,S j→X j):DkR X w' D r R :=
 ⟨h.rm.only ho (fun j e=>.inr (hS j e)) (fun j hj e=>h.fx j hj (hS j e)) (Grow.refl _ _) h.rm.sub (fun j hj=>Wal (h.rm.flt j hj) ho.size),h.bx.only ho (fun e=>h.dx (hS _ e)),h.ap,h.gl.only ho (fun j e=>h.lo j (.inr (.inr (hS j e)))),h.lo,h.dx,h.fx⟩
theorem DkR.wider (h:DkR X w D r R)(hb:Below w.heap.size w w')(h1:∀ j,X' j→X j∨(w.heap.size≤j∧j<w'.heap.size)):DkR X' w' D r R:=by
 have hlt:=h.rm.lt;refine⟨h.rm.only (G:=fun _=>False) (Only.of_below hb) (fun _ e=>e.elim) (fun _ _ e=>e) (fun j hj=>hj.elim (fun e=>.inl (.inl e)) (fun e=>(h1 j e).elim (fun e=>.inl (.inr e)) (fun e=>.inr e.1))) (fun _ e=>.inl e) (fun j hj=>hj.elim (fun e=>Wal (hlt j e) hb.size) (fun e=>(h1 j e).elim (fun e=>Wal (h.xlt e) hb.size) (fun e=>e.2))),h.bx.below hb h.bx.lt,h.ap,h.gl.below hb,fun j hj=>?_,fun e=>(h1 _ e).elim h.dx (fun e=>by have:=h.bx.lt;omega),fun j hj e=>(h1 _ e).elim (h.fx j hj) (fun e=>by have:=hlt j hj;omega)⟩;rcases hj with e | e | e
 ·exact h.lo j (.inl e)
 ·exact h.lo j (.inr (.inl e))
 ·exact (h1 j e).elim (fun e=>h.lo j (.inr (.inr e))) (fun e=>Wbf h.gl.lo e.1)
end
end
section
open Go.RowKit
def SpI (n pos:Nat)(st:Option Nat)(acc:List (Nat × Nat))(k:Nat):Prop:=(∀ x∈acc,x.1<x.2∧x.2≤n)∧acc.length≤k∧∀ a,st=some a→a<pos∧a<n
theorem JC (p:Nat→Bool)(s:ByteArray):∀ (f pos:Nat) (st:Option Nat) (acc:List (Nat × Nat)) (k:Nat),SpI s.size pos st acc k→∃ pos',SpI s.size pos' (Lib.spansFromP p s f pos st acc).2 (Lib.spansFromP p s f pos st acc).1 (k+f)
 | 0,pos,st,acc,k,h=>⟨pos,h⟩
 | f+1,pos,st,acc,k,h=>by
  obtain⟨h1,h2,h3⟩:=h;unfold Lib.spansFromP
  by_cases hp:pos<s.size
  ·have hw:=Lib.decode_width_pos s pos hp;rw[if_pos hp];have ek:k+(f+1)=k+1+f:=by omega
   split
   ·cases st with
    | none =>
     rw[ek];exact JC p s f _ none acc (k+1) ⟨h1,by omega,fun a e=>by cases e⟩
    | some a =>
     rw[ek];obtain⟨h4,h5⟩:=h3 a rfl;refine JC p s f _ none (acc++[(a,pos)]) (k+1) ⟨fun x hx=>?_,by simp;omega,fun a e=>by cases e⟩;rcases List.mem_append.1 hx with hx | hx
     ·exact h1 x hx
     ·obtain rfl:=Wbd.1 hx
      exact⟨h4,by dsimp only;omega⟩
   ·cases st with
    | none =>
     rw[ek];exact JC p s f _ (some pos) acc (k+1) ⟨h1,by omega,fun a e=>by cases e;exact⟨by omega,hp⟩⟩
    | some a =>
     rw[ek];obtain⟨h4,h5⟩:=h3 a rfl;exact JC p s f _ (some a) acc (k+1) ⟨h1,by omega,fun b e=>by cases e;exact⟨by omega,h5⟩⟩
  ·rw[if_neg hp]
   exact⟨pos,h1,Wbf h2 (by omega),h3⟩
theorem Qvy (p:Nat→Bool)(s:ByteArray):(∀ x∈Lib.spansOfP p s,x.1<x.2∧x.2≤s.size)∧(Lib.spansOfP p s).length≤s.size+1:=by
 obtain⟨pos,h1,h2,h3⟩:=JC p s s.size 0 none [] 0 ⟨(fun x hx=>by cases hx),by simp,(fun a e=>by cases e)⟩;unfold Lib.spansOfP Lib.closeSpans
 split
 ·rename_i a ha
  refine⟨fun x hx=>?_,by simp;omega⟩;rcases List.mem_append.1 hx with hx | hx
  ·exact h1 x hx
  ·obtain rfl:=Wbd.1 hx
   exact⟨(h3 a ha).2,Wak _⟩
 ·exact⟨h1,by omega⟩
theorem Qjk (s:Bs):(∀ x∈QY s,x≠[]∧x.length≤s.length)∧(QY s).length≤s.length+1:=by
 have hz:(ByteArray.mk s.toArray).size=s.length:=by simp[ByteArray.size]
 obtain⟨h1,h2⟩:=Qvy (fun n=>n == 32) ⟨s.toArray⟩;rw[hz] at h1 h2;unfold QY Lib.goFieldsP;refine⟨fun x hx=>?_,by simpa using h2⟩;rw[List.map_map] at hx;obtain⟨y,hy,rfl⟩:=List.mem_map.1 hx;obtain⟨h3,h4⟩:=h1 y hy
 have hl:((ByteArray.mk s.toArray).extract y.1 y.2).data.toList.length=y.2-y.1:=by
  have:=ByteArray.size_extract (a:=ByteArray.mk s.toArray) (b:=y.1) (e:=y.2)
  rw[hz] at this;simp only[ByteArray.size,Array.length_toList] at this ⊢;omega
 dsimp only[Function.comp];refine⟨fun e=>?_,by rw[hl];omega⟩;rw[e] at hl;simp at hl;omega
end
end Go.Proofs.YtckkgdmkfbkaoaaGreatDoor
