/- Texts of the proof. -/
import Derived.Test.YtdgdajnbkfmijaaGreatDoorM24
import Derived.Test.YtdgdajnbkfmijaaGreatDoorM32
namespace Go.Proofs.YtdgdajnbkfmijaaGreatDoor
open Go.Proofs.Tryz
set_option maxRecDepth 100000
set_option maxHeartbeats 32000000
section
open Go.RowKit
def J8 (base bo:Nat)(v:Value)(out add:List PT)(w:World)(e:Ending)(w':World):Prop :=
 e=.returned (.tuple #[])∧∃ v',Blk w' bo 36 #[v']∧w'.ownsRow base 113 3 v' (out++add).length (opv (out++add))∧Only (fun k=>k=bo∨v.ownBlock=some k) w w'
section
variable {base bo:Nat}{v v1:Value}{out:List PT}{w w1:World}
theorem Qis {p:PT}{N:Nat}{y:Value}(hb:bo<base)(hO:Blk w bo 36 #[y])(hN:out.length=N)(hown:w1.ownsRow base 113 3 v1 (N+1) (opv out++p.cells))(hg:w.grownBy w1 v.ownBlock)(hv:v.ownBlock≠some bo) :
  J8 base bo v out [p] w (.returned (.tuple #[])) (w1.setCell ⟨bo,0,none⟩ v1):=by
 subst hN;have h1:Only (fun k=>k=bo∨v.ownBlock=some k) w w1:=(Zzz hg).mono (fun _ _ e=>.inr e.symm);have hO1:Blk w1 bo 36 #[y]:=hO.only (Zzz hg) (fun e=>hv e.symm);refine⟨rfl,v1,hO1.set_ 0 v1,?_,h1.setCell (p:=⟨bo,0,none⟩) (.inl (.inl rfl)) _⟩;rw[QU,Zu,Wad];exact ownsRow_setCell_other hown (fun e=>by have:=(hown.lt bo e).1;omega) _
theorem Qit (hO:Blk w bo 36 #[v])(hown:w.ownsRow base 113 3 v out.length (opv out)):J8 base bo v out [] w (.returned (.tuple #[])) w :=
 ⟨rfl,v,hO,by rw[Wam];exact hown,Only.refl _ _⟩
attribute [local go_sem] Qr
theorem Qiu {b:U.Bs}(hb:bo<base)(hbase:base≤w.heap.size)(hO:Blk w bo 36 #[v])
  (hown:w.ownsRow base 113 3 v out.length (opv out)) (hlen:out.length≤1099511627776) :
  Calls prog 147 #[.string ⟨b.toArray⟩,.pointer (some ⟨bo,0,none⟩)] w (J8 base bo v out (Qm b 0) w):=by
 have co:=hO.cell 0;have fo:=hO.frozen 0;simp only[Wab,Waa] at co;have HO:=Hm hO;have HW:=Hm hown;have HV:Hd (v.ownBlock≠some bo):=⟨fun e=>by have:=(hown.lt bo e).1;omega⟩;obtain⟨A,k,rfl⟩:=Qg hown;clear hO hown
 by_cases h1:b=[]
 ·subst h1;have HE:Hd (Qm [] 0=[]):=⟨rfl⟩;go_enter func147,ntmps147
  go_wp2_with fail;go_end0;rw[HE.o];exact Qit HO.o HW.o
 ·have h1':(b == [])=false:=by rw[Waf];exact h1
  have HE:Hd (Qm b 0=[⟨0,0,b⟩]):=⟨by unfold Qm;rw[if_neg h1,if_neg (by omega)];rfl⟩;go_enter func147,ntmps147
  go_wp2_with (at_builtin;refine Qx Q9 #[.int .i64 0,.int .i64 0,.string ⟨b.toArray⟩] HW.o rfl rfl rfl rfl (by simp) rfl (Q5 rfl rfl rfl) (by unfold maxLen;omega) (by omega) hbase ?_;intro v1 w1 hown1 hbel1 hgr1 hnew1;obtain⟨A1,k1,rfl⟩:=Qg hown1;have hO1:=HO.o.below hbel1 hb;have co1:=hO1.cell 0;have fo1:=hO1.frozen 0;simp only[Wab,Waa] at co1;have HW1:=Hm hown1;have HG1:=Hm hgr1;clear hown1 hgr1 hbel1 hnew1 hO1)
  go_end0;rw[HE.o];exact Qis hb HO.o rfl HW1.o HG1.o HV.o
theorem Qa8 {n:Int}(hb:bo<base)(hbase:base≤w.heap.size)(hO:Blk w bo 36 #[v])
  (hown:w.ownsRow base 113 3 v out.length (opv out)) (hlen:out.length≤1099511627776) :
  Calls prog 146 #[.int .i64 n,.pointer (some ⟨bo,0,none⟩)] w (J8 base bo v out (QB n) w):=by
 have co:=hO.cell 0;have fo:=hO.frozen 0;simp only[Wab,Waa] at co;have HO:=Hm hO;have HW:=Hm hown;have HV:Hd (v.ownBlock≠some bo):=⟨fun e=>by have:=(hown.lt bo e).1;omega⟩;obtain⟨A,k,rfl⟩:=Qg hown;clear hO hown
 by_cases h1:0<n
 ·have HE:Hd (QB n=[⟨n,0,[]⟩]):=⟨by unfold QB;rw[if_pos h1]⟩;go_enter func146,ntmps146
  go_wp2_with (at_builtin;refine Qx Q9 #[.int .i64 n,.int .i64 0,.string ⟨#[]⟩] HW.o rfl rfl rfl rfl (by simp) rfl (Q5 rfl rfl rfl) (by unfold maxLen;omega) (by omega) hbase ?_;intro v1 w1 hown1 hbel1 hgr1 hnew1;obtain⟨A1,k1,rfl⟩:=Qg hown1;have hO1:=HO.o.below hbel1 hb;have co1:=hO1.cell 0;have fo1:=hO1.frozen 0;simp only[Wab,Waa] at co1;have HW1:=Hm hown1;have HG1:=Hm hgr1;clear hown1 hgr1 hbel1 hnew1 hO1)
  go_end0;rw[HE.o];exact Qis hb HO.o rfl HW1.o HG1.o HV.o
 ·have HE:Hd (QB n=[]):=⟨by unfold QB;rw[if_neg h1]⟩;go_enter func146,ntmps146
  go_wp2_with fail;go_end0;rw[HE.o];exact Qit HO.o HW.o
end
end
section
open Go.RowKit
theorem Qcr (a:Nat)(u v:List PT):Qq a (u++v)=Qq a u++Qq (a+Qj u) v:=by
 induction u generalizing a with
 | nil=>simp[Qq,Qj]
 | cons p u ih =>
  rw[Wap,Qq,Qq,Qj]
  by_cases h:Zd p=true
  ·rw[if_pos h,if_pos h,if_pos h,ih,Wah,Nat.zero_add]
  ·rw[if_neg h,if_neg h,if_neg h]
   by_cases hd:0<p.drop
   ·rw[if_pos hd,if_pos hd,ih,Nat.add_assoc]
   ·rw[if_neg hd,if_neg hd,ih,Wap,Nat.add_assoc]
theorem Qg1 {p:PT}(h:p.arg):p.exp=List.replicate p.keep.toNat PT.k1++p.put.map PT.byte++List.replicate p.drop.toNat PT.d1:=by
 rcases h.cases with ⟨b,hb,rfl⟩ | ⟨n,hn,rfl⟩ | ⟨n,hn,rfl⟩
 ·rw[Z4];simp
 ·rw[ZR];simp
 ·rw[ZJ];simp
theorem Ju (n:Nat):Qj (List.replicate n PT.k1)=n:=ZT n false
theorem Qg2 (n:Nat):Qj (List.replicate n PT.d1)=n:=ZT n true
theorem Qo5 (a:Nat):Qq a [PT.k1]=[⟨a,0⟩]:=by rw[Qq,if_neg (by simp[isPut_k1]),if_neg (by decide),Qq]
theorem Qo6 (a:Nat)(c:UInt8):Qq a [PT.byte c]=[⟨-1,c⟩]:=by rw[Qq,if_pos (QZ c),Qq];rfl
theorem Qo7 (a n:Nat):Qq a (List.replicate n PT.d1)=[]:=by
 induction n generalizing a with
 | zero=>rfl
 | succ n ih=>rw[Wat,Qq,if_neg (by simp[isPut_d1]),if_pos (by decide),ih]
theorem Qg3 {u:List PT}(hu:∀ p∈u,Yo p)(a:Nat):(Qq a u).length=Q6 u:=by
 induction u generalizing a with
 | nil=>rfl
 | cons p u ih =>
  have ih':=ih (fun q hq=>hu q (by simp[hq]));rcases hu p (by simp) with ⟨c,rfl⟩ | rfl | rfl
  ·rw[Qq,if_pos (QZ c),Q6,if_neg (by simp[PT.byte]),Wad,ih'];simp[PT.byte]
  ·rw[Qq,if_neg (by simp[isPut_d1]),if_pos (by decide),Q6,if_pos (by decide),ih'];omega
  ·rw[Qq,if_neg (by simp[isPut_k1]),if_neg (by decide),Q6,if_neg (by decide),Wan,ih'];omega
theorem Qcs {v:List PT}(y:List PT){ms:List Cl}(h:Qj v≤ms.length):Q4 (v++y) ms=Q4 v ms++Q4 y (ms.drop (Qj v)):=by
 induction v generalizing ms with
 | nil=>simp[Q4,Qj]
 | cons q v ih =>
  rw[Wap]
  by_cases hq:Zd q=true
  ·rw[Qj,if_pos hq,Nat.zero_add] at h ⊢;rw[J7 hq,J7 hq,ih h,Wah]
  ·rw[Qj,if_neg hq] at h ⊢
   cases ms with
   | nil=>simp at h
   | cons m ms =>
    have h':Qj v≤ms.length:=by simp only[Wan] at h;omega
    rw[Jb hq,Jb hq,ih h',show 1+Qj v=Qj v+1 from by omega,List.drop_succ_cons]
    split<;>rfl
theorem Qo8 (n:Nat)(ms:List Cl):Q4 (List.replicate n PT.k1) ms=ms.take n:=by
 induction n generalizing ms with
 | zero=>cases ms<;>rfl
 | succ n ih =>
  rw[Wat]
  cases ms with
  | nil=>simp[Q4,isPut_k1]
  | cons m ms=>rw[Jb (by simp[isPut_k1]),if_pos (by decide),ih,List.take_succ_cons]
theorem Qo9 (c:UInt8)(ms:List Cl):Q4 [PT.byte c] ms=[⟨-1,c⟩]:=by rw[J7 (QZ c)];cases ms<;>rfl
theorem Qpa (n:Nat)(ms:List Cl):Q4 (List.replicate n PT.d1) ms=[]:=by
 induction n generalizing ms with
 | zero=>cases ms<;>rfl
 | succ n ih =>
  rw[Wat]
  cases ms with
  | nil=>simp[Q4,isPut_d1]
  | cons m ms=>rw[Jb (by simp[isPut_d1]),if_neg (by decide),ih]
def Asc (n:Nat):Nat→List Cl→Prop
 | _,[]=>True
 | lo,x :: r=>if x.from_<0 then Asc n lo r else ((lo:Int)≤x.from_∧x.from_<n∧Asc n (x.from_.toNat+1) r)
theorem Qpb {u:List PT}(hu:∀ p∈u,Yo p)(lo a n:Nat)(h:lo≤a)(hn:a+Qj u≤n):Asc n lo (Qq a u):=by
 induction u generalizing a lo with
 | nil=>trivial
 | cons p u ih =>
  have ih':=ih (fun q hq=>hu q (by simp[hq]));rcases hu p (by simp) with ⟨c,rfl⟩ | rfl | rfl
  ·rw[Qj,if_pos (QZ c)] at hn;rw[Qq,if_pos (QZ c)];simp only[PT.byte,List.map_cons,List.map_nil,List.singleton_append];rw[Asc,if_pos (show (-1:Int)<0 by decide)];exact ih' lo a h (by omega)
  ·rw[Qj,if_neg (by simp[isPut_d1])] at hn;rw[Qq,if_neg (by simp[isPut_d1]),if_pos (by decide)];exact ih' lo (a+1) (by omega) (by omega)
  ·rw[Qj,if_neg (by simp[isPut_k1])] at hn;rw[Qq,if_neg (by simp[isPut_k1]),if_neg (by decide),Asc,if_neg (by dsimp only;omega)];refine⟨by dsimp only;omega,by dsimp only;omega,?_⟩;dsimp only;rw[Int.toNat_natCast];exact ih' (a+1) (a+1) (Wak _) (by omega)
def SS.padT (S:SS)(N:Nat):List Bool:=S.D++List.replicate (N-S.l.length) true
theorem SS.padT_set {S:SS}{N i:Nat}(h1:S.l.length≤i)(h2:i<N):(S.padT N).set i false=(SS.take false 1 (SS.take true (i-S.l.length) S)).padT N:=by
 unfold SS.padT;rw[SS.take_D,SS.take_D,SS.take_len,SS.take_len];obtain⟨m,rfl⟩:∃ m,i=S.l.length+m:=⟨i-S.l.length,by omega⟩;obtain⟨r,hr⟩:∃ r,N-S.l.length=m+(r+1):=⟨N-S.l.length-m-1,by omega⟩;have e1:S.l.length+m-S.l.length=m:=by omega
 have e2:N-(S.l.length+m+1)=r:=by omega
 rw[e1,e2,hr,← List.replicate_append_replicate,Wat,List.set_append_right _ _ (by rw[SS.D_length];omega),SS.D_length,e1,List.set_append_right _ _ (by simp)];simp[Wat]
theorem SS.padT_len (S:SS)(N:Nat)(h:S.l.length≤N):(S.padT N).length=N:=by unfold SS.padT;rw[Wad,SS.D_length,List.length_replicate];omega
theorem SS.full_P (S:SS)(N:Nat):(S.full N).P=S.padP N:=by unfold SS.full SS.padP;rw[SS.take_P]
theorem SS.full_D (S:SS)(N:Nat):(S.full N).D=S.padT N:=by unfold SS.full SS.padT;rw[SS.take_D]
theorem SS.full_len (S:SS)(N:Nat)(h:S.l.length≤N):(S.full N).l.length=N:=by unfold SS.full;rw[SS.take_len];omega
theorem SS.cell_put {S:SS}{x:Cl}(h:x.from_<0):S.cell x=⟨S.l,S.e++[x.c]⟩:=by unfold SS.cell;rw[if_pos h]
theorem SS.cell_text {S:SS}{x:Cl}(h:¬ x.from_<0):S.cell x=SS.take false 1 (SS.take true (x.from_.toNat-S.l.length) S):=by unfold SS.cell;rw[if_neg h]
theorem Qpc (i r:Nat):(List.replicate i true++List.replicate (r+1) false).set i true=List.replicate (i+1) true++List.replicate r false:=by
 rw[Wat (n:=r),List.set_append_right _ _ (by simp),List.length_replicate,Nat.sub_self,List.set_cons_zero,List.replicate_succ' (n:=i),Wah];rfl
abbrev Cl.cells (x:Cl):List Value:=[.int .i64 x.from_,.int .u8 (x.c.toNat:Int)]
def clv (l:List Cl):List Value:=l.flatMap Cl.cells
theorem Jv (l:List Cl):(clv l).length=l.length*2:=by
 unfold clv
 induction l with
 | nil=>rfl
 | cons p l ih=>rw[List.flatMap_cons,Wad,ih];simp;omega
theorem XP (a b:List Cl):clv (a++b)=clv a++clv b:=by unfold clv;rw[List.flatMap_append]
theorem Qct (x:Cl):clv [x]=x.cells:=by simp[clv]
theorem Qcu (l:List Cl):∀ u∈clv l,u.oneCell'=true:=by
 intro u hu;unfold clv at hu;obtain⟨x,_,h⟩:=List.mem_flatMap.1 hu;simp[Cl.cells] at h
 rcases h with rfl | rfl<;>rfl
theorem Qg4 {l:List Cl}{k:Nat}(hk:k<l.length):(clv l)[2*k]?=some (.int .i64 l[k].from_)∧(clv l)[2*k+1]?=some (.int .u8 (l[k].c.toNat:Int)):=by
 induction l generalizing k with
 | nil=>simp at hk
 | cons p l ih =>
  have e:clv (p :: l)=p.cells++clv l:=by simp[clv]
  rw[e]
  cases k with
  | zero=>simp[Cl.cells]
  | succ k =>
   have hl:k<l.length:=by simpa using hk
   obtain⟨h1,h2⟩:=ih hl;rw[show 2*(k+1)=2+2*k from by omega];simp only[Cl.cells,List.getElem_cons_succ];refine⟨?_,?_⟩
   ·rw[Way (by simp)];simpa using h1
   ·rw[Way (by simp;omega)];rw[← h2];congr 1;simp;omega
theorem Sl.cl {w:World}{l:List Cl}{v:Value}{n:Nat}(h:Sl w 2 v n (clv l)){k:Nat}(hk:k<n)(hl:k<l.length):∃ b o c,v=.slice (some ⟨b,o,none⟩) n c∧b<w.heap.size∧w.cell? ⟨b,o+k*2,none⟩=some (.int .i64 l[k].from_)∧w.cell? ⟨b,o+k*2+1,none⟩=some (.int .u8 (l[k].c.toNat:Int)):=by
 obtain⟨A,c,rfl,h2,_,_,_,h5⟩:=h;obtain⟨ad,rfl,hb,hc⟩:=h5 (by omega);obtain⟨h1,h2⟩:=Qg4 hl;have c1:=hc _ _ h1;have c2:=hc _ _ h2;obtain⟨b,o,p⟩:=ad
 have hp:p=none:=by
  have hz:=hc 0 (.int .i64 (l[0]'(by omega)).from_) (by have:=(Qg4 (l:=l) (k:=0) (by omega)).1;simpa using this)
  have:(⟨b,o,p⟩:Addr).add 0=⟨b,o,p⟩:=by unfold Addr.add;rfl
  rw[this] at hz
  cases p with
  | none=>rfl
  | some x=>unfold World.cell? at hz;split at hz<;>simp at hz
 subst hp;simp only[Qr] at c1 c2;rw[Nat.mul_comm 2 k] at c1 c2
 exact⟨b,o,c,rfl,hb,c1,by rw[← c2,Nat.add_assoc]⟩
theorem Sl.sub {w:World}{l:List Cl}{b o n c i m:Nat}(h:Sl w 2 (.slice (some ⟨b,o,none⟩) n c) n (clv l))(him:i+m≤n) :
  (i=c→Sl w 2 (.slice (some ⟨b,o,none⟩) 0 0) 0 (clv ((l.drop i).take m))∧m=0)∧Sl w 2 (.slice (some ⟨b,o+i*2,none⟩) m (c-i)) m (clv ((l.drop i).take m)):=by
 obtain⟨A,c',hv,h2,h3,h4,h4',h5⟩:=h
 cases hv
 have hln:l.length=n:=by rw[Jv] at h2;omega
 have hlm:(clv ((l.drop i).take m)).length=m*2:=by rw[Jv,Wbb,War];omega
 refine⟨fun hi=>?_,?_⟩
 ·have hm:m=0:=by omega
  subst hm
  exact⟨⟨_,_,rfl,hlm,Wak _,by unfold maxLen;omega,(fun h=>nomatch h),fun h=>absurd h (by omega)⟩,rfl⟩
 ·refine⟨_,_,rfl,hlm,by omega,by omega,(fun h=>nomatch h),fun hm=>?_⟩;obtain⟨ad,had,hb,hc⟩:=h5 (by omega)
  cases had
  refine⟨_,rfl,hb,fun j u hu=>?_⟩
  have hj:j<m*2:=by
   rcases Nat.lt_or_ge j (m*2) with h | h
   ·exact h
   ·rw[List.getElem?_eq_none (by omega)] at hu;cases hu
  have:=hc (i*2+j) u (by
   have e:clv l=clv (l.take i)++(clv ((l.drop i).take m)++clv ((l.drop i).drop m)):=by
    rw[← XP,← XP,Wbh,Wbh]
   rw[e,Way (by rw[Jv,Wbb];omega),Jv,Wbb,show i*2+j-min i l.length*2=j from by omega,List.getElem?_append_left (by omega)];exact hu)
  rw[Qr] at this ⊢
  rwa [Nat.add_assoc]
section
variable {P:Program}{ops:Array Oper}{Q:Exit→Act→World→Prop}{a:Act}{W:World}{rest:List Oper}{o:Oper}{s x:Operand}{t e:TypeId}{size bytes base n m:Nat}{v:Value}{xs:List Value}
theorem Jw (E:El P t e size bytes)(ys:List Value)(u:Value)(hown:W.ownsRow base e size v n xs)(hsl:Sl W size u m ys)(hgd:o.guard=none)
  (ho:o.op=.call { callee:=.builtin .append,args:=#[s,x],argTypes:=#[t,t] }) (hs:a.eval s=v) (hx:a.eval x=u)
  (h1:∀ u∈ys,u.oneCell'=true) (h63:n+m≤maxLen) (hbytes:(n+m)*bytes≤140737488355328) (hbase:base≤W.heap.size)
  (h:∀ v' w',w'.ownsRow base e size v' (n+m) (xs++ys)→Below base W w'→W.grownBy w' v.ownBlock→(∀ k,v'.ownBlock=some k→v.ownBlock=some k∨W.heap.size≤k)→wpList P ops Q rest (a.put o.dst v') w'):wpList P ops Q (o :: rest) a W:=by
 obtain⟨i,z,hi,hz,hsi,hby,hzs⟩:=E.hi;have hlt:=hown.lt
 have fin:∀ v' w',w'.ownsRow base e size v' (n+m) (xs++ys)→W.grownBy w' v.ownBlock→(∀ k,v'.ownBlock=some k→v.ownBlock=some k∨W.heap.size≤k)→wpList P ops Q rest (a.put o.dst v') w':=fun v' w' ho' hg' hk=>by
  refine h v' w' ho' ⟨hg'.os,hg'.tape,hg'.output,hg'.size,fun k hk=>?_⟩ hg' hk;exact hg'.block k (by omega) (fun e=>by have:=hlt k e.symm;omega)
 obtain⟨A,c,rfl,hl,_,_,h4,h5⟩:=hsl
 cases A with
 | none =>
  have hm:m=0:=by
   rcases Nat.eq_zero_or_pos m with h | h
   ·exact h
   ·obtain⟨ad,hh,_⟩:=h5 h
    cases hh
  subst hm;obtain rfl:=h4 rfl;have hy:ys=[]:=List.eq_nil_of_length_eq_zero (by simpa using hl);subst hy;refine wpList_append_own_none hgd s x t ho base e i size E.ht hi v n xs hs hown hx ?_;refine fin v W ?_ ⟨rfl,rfl,rfl,Wak _,fun _ _ _=>rfl⟩ (fun k hk=>.inl hk);simpa using hown
 | some ad =>
  refine wpList_append_own_at _ hgd s x t ho base e i z size bytes E.ht hi hz hsi hby hzs E.pos v n xs hs hown ad m c ys hx hl ?_ h1 h63 hbytes hbase ?_
  ·intro j u hu
   have hj:j<ys.length:=by
    rcases Nat.lt_or_ge j ys.length with h | h
    ·exact h
    ·rw[List.getElem?_eq_none h] at hu;cases hu
   have hm:0<m:=by
    rcases Nat.eq_zero_or_pos m with h | h
    ·subst h;simp at hl;subst hl;simp at hj
    ·exact h
   obtain⟨ad',e',_,hc⟩:=h5 hm
   cases e'
   exact hc j u hu
  ·intro v' w' ho' hg' _ hk;refine fin v' w' ho' hg' (fun k hk'=>?_);rcases hk with hk | hk
   ·exact .inl (hk ▸ hk')
   ·rw[hk] at hk'
    have:=Wbg hk'
    exact .inr (by omega)
end
theorem Qpd (u:List PT):Q6 u≤u.length:=by
 induction u with
 | nil=>exact Wak _
 | cons p u ih=>rw[Q6,Wan];split<;>omega
theorem Qpe {w:World}{base:Nat}{e:TypeId}{size:Nat}{v:Value}{n:Nat}{xs:List Value}(h:w.ownsRow base e size v n xs):(v=.slice none 0 0∧n=0)∨∃ g c,v=.slice (some ⟨g,0,none⟩) n c:=by
 rcases h with ⟨_,h | ⟨g,cap,cur,h,_⟩⟩
 ·exact .inl h
 ·exact .inr ⟨g,cap,h⟩
theorem take_at {z:U.Bs}{i:Nat}(h:i<z.length):z.take (i+1)=z.take i++[U.at_ z i]:=by
 rw[Wag h];simp[U.at_,h]
theorem Qcv (x:Bool)(m:Nat)(S:SS):plg (SS.take x m S)=plg S:=by
 unfold plg;rw[SS.take_P];simp
theorem Qpf (S:SS)(x:Cl):plg (S.cell x)≤plg S+1:=by
 unfold SS.cell
 split
 ·unfold plg SS.P;simp;omega
 ·rw[Qcv,Qcv];omega
theorem Qg5 (l:List Cl)(S:SS):plg (l.foldl SS.cell S)≤plg S+l.length:=by
 induction l generalizing S with
 | nil=>simp
 | cons x l ih =>
  rw[List.foldl_cons,Wan]
  have:=ih (S.cell x)
  have:=Qpf S x
  omega
theorem Qpg (n:Nat)(l:List Cl):plg (YK n l)≤l.length:=by
 unfold YK SS.full;rw[Qcv]
 have:=Qg5 l .zero
 simpa [plg,SS.P,SS.zero] using this
theorem Qph (S:SS):S.e.length≤plg S:=by unfold plg SS.P;simp
theorem Qg6 (l:List PT)(k:Nat):Qj (Qf (l.take k))≤Qj (Qf l):=by
 conv=>rhs;rw[← Wbh k l,YT,QS]
 omega
end
section
open Go.RowKit
structure RTx (H:Nat)(w0 wr:World)(v:Value)(out:List PT):Prop where
 O:Blk wr H 36 #[v]
 own:wr.ownsRow (H+1) 113 3 v out.length (opv out)
 bel:Below H w0 wr
section
variable {H:Nat}{w0 wr w':World}{v:Value}{out ad:List PT}{e:Ending}
theorem RTx.new (w0:World)(hH:w0.heap.size=H):RTx H w0 (w0.alloc (.cells #[.slice none 0 0] 36)) (.slice none 0 0) []:=by
 subst hH
 exact⟨Blk.new _ _ _,World.ownsRow_nil _ _ _ _,Qa (Wac _ _) _⟩
theorem RTx.sz (h:RTx H w0 wr v out):H+1≤wr.heap.size:=h.O.lt
theorem RTx.only (h:RTx H w0 wr v out)(ho:Only (fun k=>k=H∨v.ownBlock=some k) wr w'):Below H w0 w' :=
 h.bel.trans (ho.below (by have:=h.sz;omega) (fun k hk=>by
  rintro (e | e)
  ·omega
  ·have:=(h.own.lt _ e).1;omega))
theorem RTx.cl (h:RTx H w0 wr v out)(hc:J8 (H+1) H v out ad wr e w'):e=.returned (.tuple #[])∧∃ v',RTx H w0 w' v' (out++ad):=by
 obtain⟨he,v',h1,h2,h3⟩:=hc
 exact⟨he,v',h1,h2,h.only h3⟩
theorem RTx.snoc {p:PT}{M:Nat}{v1:Value}{w1:World}(h:RTx H w0 wr v out)(hM:out.length=M)(hown:w1.ownsRow (H+1) 113 3 v1 (M+1) (opv out++p.cells))(hg:wr.grownBy w1 v.ownBlock) :
  RTx H w0 (w1.setCell ⟨H,0,none⟩ v1) v1 (out++[p]):=by
 subst hM;have hne:v.ownBlock≠some H:=fun e=>by have:=(h.own.lt _ e).1;omega
 have h1:Only (fun k=>k=H∨v.ownBlock=some k) wr w1:=(Zzz hg).mono (fun _ _ e=>.inr e.symm);have hO1:=h.O.only (Zzz hg) (fun e=>hne e.symm);refine⟨hO1.set_ 0 v1,?_,h.only (h1.setCell (p:=⟨H,0,none⟩) (.inl (.inl rfl)) _)⟩;rw[QU,Zu,Wad];exact ownsRow_setCell_other hown (fun e=>by have:=(hown.lt H e).1;omega) _
end
structure GX (w:World)(g:Nat)(px dx py dy:Value):Prop where
 X:Blk w g 234 #[px,dx]
 Y:Blk w (g+1) 234 #[py,dy]
theorem GX.at_ {w w':World}{g:Nat}{px dx py dy:Value}(h:GX w g px dx py dy)(hb:Below (g+1+1) w w'):w'.cell? ⟨g,0,none⟩=some px∧w'.cell? ⟨g,1,none⟩=some dx∧w'.cell? ⟨g+1,0,none⟩=some py∧w'.cell? ⟨g+1,1,none⟩=some dy:=by
 have h1:=h.X.below hb (by omega);have h2:=h.Y.below hb (by omega);have a0:=h1.cell 0;have a1:=h1.cell 1;have b0:=h2.cell 0;have b1:=h2.cell 1;simp only[Wab,Waa,Wae] at a0 a1 b0 b1
 exact⟨a0,a1,b0,b1⟩
theorem GX.new (w:World)(px dx py dy:Value):GX ((w.alloc (.cells #[px,dx] 234)).alloc (.cells #[py,dy] 234)) w.heap.size px dx py dy:=by
 refine⟨(Blk.new _ _ _).alloc _,?_⟩
 have:=Blk.new (w.alloc (.cells #[px,dx] 234)) 234 #[py,dy]
 rwa [Waq] at this
def YB (first:Bool)(px py:U.Bs):List PT:=if first=true then Qm px 0++QB py.length else QB py.length++Qm px 0
def Yx (dx dy:Bool):List PT:=if dy=true then [] else if dx=true then [⟨0,1,[]⟩] else QB 1
theorem Qf6 (b:U.Bs):Qf (Qm b 0)=b.map PT.byte:=by
 unfold Qm
 by_cases h:b=[]
 ·subst h;rfl
 ·rw[if_neg h,if_neg (by omega),Wam,Yc,Z4,Jg,Wam]
theorem Qf7 (n:Nat):Qf (QB n)=List.replicate n PT.k1:=by
 unfold QB
 by_cases h:0<n
 ·rw[if_pos (by omega),Yc,ZJ,Jg,Wam]
 ·obtain rfl:n=0:=by omega
  rfl
theorem Qf8 (first:Bool)(px py:U.Bs):Qf (YB first px py)=Xt first px py:=by
 unfold YB Xt
 cases first
 ·rw[if_neg (by decide),if_neg (by decide),YT,Qf6,Qf7]
 ·rw[if_pos rfl,if_pos rfl,YT,Qf6,Qf7]
theorem Qnf (dx dy:Bool):Qf (Yx dx dy)=if dy=true then [] else [unit dx]:=by
 cases dx<;>cases dy<;>rfl
theorem Qf9 (b:U.Bs):(∀ p∈Qm b 0,p.arg)∧(Qm b 0).length≤1:=by
 unfold Qm
 by_cases h:b=[]
 ·subst h;exact⟨fun p hp=>by simp at hp,by simp⟩
 ·rw[if_neg h,if_neg (by omega),Wam];refine⟨fun p hp=>?_,by simp⟩;obtain rfl:=Wbd.1 hp;exact PT.arg_put h
theorem Qcd (n:Int):(∀ p∈QB n,p.arg)∧(QB n).length≤1:=by
 unfold QB
 by_cases h:0<n
 ·rw[if_pos h];refine⟨fun p hp=>?_,by simp⟩;obtain rfl:=Wbd.1 hp;exact PT.arg_keep h
 ·rw[if_neg h];exact⟨fun p hp=>by simp at hp,by simp⟩
theorem Jm {a b:List PT}(h1:∀ p∈a,p.arg)(h2:∀ p∈b,p.arg):∀ p∈a++b,p.arg:=fun p hp=>(List.mem_append.1 hp).elim (h1 p) (h2 p)
theorem Qac (first:Bool)(px py:U.Bs):(∀ p∈YB first px py,p.arg)∧(YB first px py).length≤2:=by
 obtain⟨a1,a2⟩:=Qf9 px;obtain⟨b1,b2⟩:=Qcd py.length;unfold YB
 cases first
 ·rw[if_neg (by decide)];exact⟨Jm b1 a1,by rw[Wad];omega⟩
 ·rw[if_pos rfl];exact⟨Jm a1 b1,by rw[Wad];omega⟩
theorem Qng (dx dy:Bool):(∀ p∈Yx dx dy,p.arg)∧(Yx dx dy).length≤1:=by
 unfold Yx
 cases dy
 ·rw[if_neg (by decide)]
  cases dx
  ·rw[if_neg (by decide)];exact Qcd 1
  ·rw[if_pos rfl];refine⟨fun p hp=>?_,by simp⟩;obtain rfl:=Wbd.1 hp;exact PT.arg_drop (by omega)
 ·rw[if_pos rfl];exact⟨fun p hp=>by simp at hp,by simp⟩
structure RXr (first:Bool)(X Y:SS)(N:Nat)(Uu:List PT)(H:Nat)(w0 wr:World)(k:Nat)(v:Value)(out:List PT):Prop where
 le:k≤N+1
 rt:RTx H w0 wr v out
 arg:∀ p∈out,p.arg
 len:out.length≤3*k
 eq:k≤N→Qf out++YJ first (X.l.drop k) (Y.l.drop k) X.e Y.e=Uu
 fin:k=N+1→Qf out=Uu
section
variable {first:Bool}{X Y:SS}{N k H:Nat}{Uu:List PT}{w0 wr w':World}{v v':Value}{out:List PT}{px py:U.Bs}{dx dy:Bool}
theorem RXr.last {out2:List PT}(h:RXr first X Y N Uu H w0 wr k v out)(hX:X.l.length=N)(hY:Y.l.length=N)(hk:k=N)(hO:out2=out++YB first px py)(hp:px=X.e∧py=Y.e)(ht:RTx H w0 w' v' out2):RXr first X Y N Uu H w0 w' (k+1) v' out2:=by
 subst hk;obtain⟨rfl,rfl⟩:=hp;subst hO;obtain⟨a1,a2⟩:=Qac first X.e Y.e;have he:=h.eq (by omega);have e0:∀ ex ey,YJ first [] [] ex ey=Xt first ex ey:=fun ex ey=>by rw[YJ];simp
 rw[List.drop_eq_nil_of_le (by omega),List.drop_eq_nil_of_le (by omega),e0] at he
 exact⟨by omega,ht,Jm h.arg a1,by have:=h.len;rw[Wad];omega,fun h=>by omega,fun _=>by rw[YT,Qf8,he]⟩
theorem RXr.next {out2:List PT}(h:RXr first X Y N Uu H w0 wr k v out)(hX:X.l.length=N)(hY:Y.l.length=N)(hk:k<N)(ex:X.l[k]?=some (px,dx))(ey:Y.l[k]?=some (py,dy))(hO:out2=out++YB first px py)
  (ht:RTx H w0 w' v' (out2++Yx dx dy)):RXr first X Y N Uu H w0 w' (k+1) v' (out2++Yx dx dy):=by
 subst hO;obtain⟨a1,a2⟩:=Qac first px py;obtain⟨b1,b2⟩:=Qng dx dy;have he:=h.eq (by omega)
 have e1:X.l.drop k=(px,dx) :: X.l.drop (k+1):=by
  rw[Wbl (by omega)];rw[Waj (by omega)] at ex;rw[Wbg ex]
 have e2:Y.l.drop k=(py,dy) :: Y.l.drop (k+1):=by
  rw[Wbl (by omega)];rw[Waj (by omega)] at ey;rw[Wbg ey]
 rw[e1,e2,YJ] at he;refine⟨by omega,ht,Jm (Jm h.arg a1) b1,by have:=h.len;rw[Wad,Wad];omega,fun _=>?_,fun h=>by omega⟩;rw[YT,YT,Qf8,Qnf,← he];simp only[Wah]
end
def Qnh (c:Int)(U:List PT)(w:World)(e:Ending)(w':World):Prop :=
 Below w.heap.size w w'∧∃ v,e=.returned (.tuple #[v,.int .i64 c])∧(c=0→Sl w' 3 v (ZX U).length (opv (ZX U)))∧(c≠0→v=.slice none 0 0)
def Qga (c:Int)(U:List PT)(w:World)(e:Ending)(w':World):Prop:=Qnh c U w e w'∧FrE w.heap.size e
theorem Qad {w:World}{vp:Value}{n k:Nat}{l:List U.Bs}{b:U.Bs}{A:Option Addr}{c:Nat}(h:Sl w 1 vp n (strs l))(hv:vp=.slice A n c)(hk:k<n)(hb:l[k]?=some b):∃ ad:Addr,A=some ad∧ad.block<w.heap.size∧w.cell? (ad.add k)=some (.string ⟨b.toArray⟩):=by
 obtain⟨ad,c',u,hv',hl,hu,hc⟩:=h.at_ hk;rw[hv] at hv'
 cases hv'
 rw[Xm hb hu] at hc
 exact⟨ad,rfl,hl,hc⟩
theorem Qae {w:World}{vp:Value}{n k:Nat}{l:List Bool}{b:Bool}{A:Option Addr}{c:Nat}(h:Sl w 1 vp n (bools l))(hv:vp=.slice A n c)(hk:k<n)(hb:l[k]?=some b):∃ ad:Addr,A=some ad∧ad.block<w.heap.size∧w.cell? (ad.add k)=some (.bool b):=by
 obtain⟨ad,c',u,hv',hl,hu,hc⟩:=h.at_ hk;rw[hv] at hv'
 cases hv'
 rw[XR hb hu] at hc
 exact⟨ad,rfl,hl,hc⟩
section
attribute [local go_sem] Qr
theorem Qgb {la lb:List PT}{va vb:Value}{na nb:Nat}{first:Bool}{w:World}(ha:Sl w 3 va na (opv la))(hb:Sl w 3 vb nb (opv lb))(hfa:Mo la na)(hfb:Mo lb nb) :
  Calls prog 97 #[va,vb,.bool first] w (Qga (trc la lb) (tr first (Qf (norm la)) (Qf (norm lb))) w):=by
 have hla:la.length=na:=by have:=ha.len;rw[QH] at this;omega
 have hlb:lb.length=nb:=by have:=hb.len;rw[QH] at this;omega
 have HA:=Hm ha;have HB:=Hm hb;have HFA:=Hm hfa;have HFB:=Hm hfb;obtain⟨A1,c1,rfl,-⟩:=ha;obtain⟨A2,c2,rfl,-⟩:=hb;have hna:=hfa.len;have hnb:=hfb.len;clear hfa hfb;go_enter func97,ntmps97
 go_wp2_with fail;refine (Qjn HA.o HB.o HFA.o.put HFB.o.put).mono ?_;rintro e w1 ⟨rfl,hb1⟩;have HB1:=Hm hb1;clear hb1
 by_cases h0:QF la lb=0
 ·obtain⟨ga,gb⟩:=Qal h0;have harga:∀ p∈la,p.arg:=fun p hp=>(ga p hp).1
  have hargb:∀ p∈lb,p.arg:=fun p hp=>(gb p hp).1
  obtain⟨f1,f2,f3⟩:=HFA.o.bd harga;obtain⟨f4,f5,f6⟩:=HFB.o.bd hargb;have ea:=Zl f3 (by omega);have eb:=Zl f6 (by omega);have HEA:=Hm ea;have HEB:=Hm eb;have HARA:=Hm harga;have HARB:=Hm hargb;obtain⟨N,hN⟩:=Was f3;have HN:=Hm hN;have hN2:N≤1000000:=by omega
  have HWA:Hd (Qc la≤900000):=⟨by omega⟩;have HWB:Hd (was lb≤1000000∧Qc lb≤900000∧0≤was lb):=⟨by omega,by omega,f6⟩;rw[h0];have H0:=Hm h0;clear h0 ga gb harga hargb f1 f2 f3 f4 f5 f6 ea eb hN;go_wp2_with fail;refine (Xg (HA.o.below HB1.o)).mono ?_;rintro e w2 ⟨he,hb2⟩;rw[HEA.o,HN.o] at he;subst he;have HB2:=Hm (Qb HB1.o hb2);clear hb2;go_wp2_with fail;refine (Xg (HB.o.below HB2.o)).mono ?_;rintro e w3 ⟨he,hb3⟩;rw[HEB.o] at he;subst he;have HB3:=Hm (Qb HB2.o hb3);clear hb3
  by_cases hw:was la=was lb
  ·have HTC:Hd (trc la lb=0):=⟨by unfold trc;rw[if_pos H0.o,if_pos hw]⟩;have HW:Hd (was lb=N):=⟨by rw[← hw,HN.o]⟩;rw[HW.o];clear hw;have hw':((N:Int) == N)=true:=beq_self_eq_true _;have HL1:Hd (la.length≤2000000∧lb.length≤2000000):=⟨by omega,by omega⟩;obtain⟨no1,no2,no3⟩:=Qaf HARA.o;obtain⟨no4,no5,no6⟩:=Qaf HARB.o;have HNA:=Hm no1;have HNB:=Hm no4;have HNW:Hd (was (norm la)=N∧was (norm lb)=N∧Qc (norm la)≤900000∧Qc (norm lb)≤900000):=⟨by rw[no2,HN.o],by rw[no5,HW.o],by have:=HWA.o;omega,by have:=HWB.o;omega⟩;have HNL1:=Hm (Qgh HARA.o);have HNL2:=Hm (Qgh HARB.o);clear no1 no2 no3 no4 no5 no6;go_wp2_with fail;refine (JH (HA.o.below HB3.o) HARA.o HN.o (by omega) (by have:=HWA.o;omega) (by omega)).mono ?_;rintro e w4 ⟨⟨vp4,vd4,rfl,hp4,hd4⟩,hb4⟩;have HB4:=Hm (Qb HB3.o hb4);have HP4:=Hm hp4;have HD4:=Hm hd4;clear hb4 hp4 hd4;go_wp2_with fail;refine (Qh1 HP4.o HD4.o (by omega) (by rw[J4];have:=HWA.o;omega)).mono ?_;rintro e w5 ⟨⟨v5,rfl,hs5⟩,hb5⟩;rw[Qbr HARA.o] at hs5;have HB5:=Hm (Qb HB4.o hb5);have HS5:=Hm hs5;clear hb5 hs5;go_wp2_with fail;refine (JH HS5.o HNA.o HNW.o.1 (by omega) (by have:=HNW.o;omega) (by have:=HNL1.o;have:=HL1.o;omega)).mono ?_;rintro e w6 ⟨⟨vp6,vd6,rfl,hp6,hd6⟩,hb6⟩;have HB6:=Hm (Qb HB5.o hb6);have HP6:=Hm hp6;have HD6:=Hm hd6;obtain⟨AP6,cp6,rfl,-⟩:=hp6;obtain⟨AD6,cd6,rfl,-⟩:=hd6;clear hb6;go_wp2_with fail;refine (JH (HB.o.below HB6.o) HARB.o HW.o (by omega) (by have:=HWB.o;omega) (by omega)).mono ?_;rintro e w7 ⟨⟨vp7,vd7,rfl,hp7,hd7⟩,hb7⟩;have HB7:=Hm (Qb HB6.o hb7);have HP7:=Hm hp7;have HD7:=Hm hd7;have HP6b:=Hm (HP6.o.below hb7);have HD6b:=Hm (HD6.o.below hb7);clear hb7 hp7 hd7;go_wp2_with fail;refine (Qh1 HP7.o HD7.o (by omega) (by rw[J4];have:=HWB.o;omega)).mono ?_;rintro e w8 ⟨⟨v8,rfl,hs8⟩,hb8⟩;rw[Qbr HARB.o] at hs8;have HB8:=Hm (Qb HB7.o hb8);have HS8:=Hm hs8;have HP6c:=Hm (HP6b.o.below hb8);have HD6c:=Hm (HD6b.o.below hb8);clear hb8 hs8;go_wp2_with fail;refine (JH HS8.o HNB.o HNW.o.2.1 (by omega) (by have:=HNW.o;omega) (by have:=HNL2.o;have:=HL1.o;omega)).mono ?_;rintro e w9 ⟨⟨vp9,vd9,rfl,hp9,hd9⟩,hb9⟩;have HB9:=Hm (Qb HB8.o hb9);have HPX:=Hm (HP6c.o.below hb9);have HDX:=Hm (HD6c.o.below hb9);have HPY:=Hm hp9;have HDY:=Hm hd9;obtain⟨AP9,cp9,rfl,-⟩:=hp9;obtain⟨AD9,cd9,rfl,-⟩:=hd9;clear hb9 HP4 HD4 HP6 HD6 HP6b HD6b HP6c HD6c HP7 HD7 HS5 HS8;have HXL:Hd ((spread (norm la)).l.length=N∧(spread (norm lb)).l.length=N):=⟨by have:=Qbf HNA.o;have:=HNW.o.1;omega,by have:=Qbf HNB.o;have:=HNW.o.2.1;omega⟩
   have HU:Hd (YJ first (spread (norm la)).l (spread (norm lb)).l (spread (norm la)).e (spread (norm lb)).e=tr first (Qf (norm la)) (Qf (norm lb))):=⟨by
    rw[Qrm (by rw[HXL.o.1,HXL.o.2])];have e1:(⟨(spread (norm la)).l,(spread (norm la)).e⟩:SS)=spread (norm la):=rfl;have e2:(⟨(spread (norm lb)).l,(spread (norm lb)).e⟩:SS)=spread (norm lb):=rfl;rw[e1,e2,Qbq HNA.o,Qbq HNB.o]⟩
   have HUL:Hd ((tr first (Qf (norm la)) (Qf (norm lb))).length≤4000000):=⟨by
    have:=Qh8 first (Qf (norm la)) (Qf (norm lb))
    obtain⟨_,_,e3⟩:=ZM HNA.o;obtain⟨_,_,e6⟩:=ZM HNB.o
    have:=HNW.o
    omega⟩
   have HBX:Hd (plg (spread (norm la))≤900000∧plg (spread (norm lb))≤900000):=⟨by rw[J4];exact HNW.o.2.2.1,by rw[J4];exact HNW.o.2.2.2⟩;generalize tr first (Qf (norm la)) (Qf (norm lb))=U at *;generalize spread (norm la)=X at *;generalize spread (norm lb)=Y at *;go_wp2_with fail;have HGX:=Hm (GX.new w9 (.slice AP6 (N+1) cp6) (.slice AD6 N cd6) (.slice AP9 (N+1) cp9) (.slice AD9 N cd9));have hW0z:((w9.alloc (.cells #[.slice AP6 (N+1) cp6,.slice AD6 N cd6] 234)).alloc (.cells #[.slice AP9 (N+1) cp9,.slice AD9 N cd9] 234)).heap.size=w9.heap.size+1+1:=by rw[Waq,Waq]
   have hW0b:Below w9.heap.size w9 ((w9.alloc (.cells #[.slice AP6 (N+1) cp6,.slice AD6 N cd6] 234)).alloc (.cells #[.slice AP9 (N+1) cp9,.slice AD9 N cd9] 234)):=Qa (Qa (Wac _ _) _) _;generalize (w9.alloc (.cells #[.slice AP6 (N+1) cp6,.slice AD6 N cd6] 234)).alloc (.cells #[.slice AP9 (N+1) cp9,.slice AD9 N cd9] 234)=W0 at *;have HZ:=Hm hW0z;have HW0:Hd (∀ W,Below (w9.heap.size+1+1) W0 W→Below w9.heap.size w9 W):=⟨fun W h=>hW0b.trans (h.mono (by omega))⟩;clear hW0z hW0b hw'
   go_loopw [50] (fun i wr=>∃ (k:Nat) (v:Value) (out:List PT),i=.int .i64 k∧RXr first X Y N U (w9.heap.size+1+1) W0 wr k v out) (fun i _=>N+1-(intOf i).toNat)
   case atStart=>exact⟨0,_,[],rfl,by omega,RTx.new _ HZ.o,fun p hp=>by simp at hp,by simp,fun _=>by rw[List.drop_zero,List.drop_zero,HU.o];rfl,fun h=>by omega⟩
   case round =>
    obtain⟨k,v,out,rfl,hrr⟩:=hrel;have HRR:=Hm hrr;have hk:=hrr.le;have hlen:=hrr.len;obtain⟨A,c,rfl⟩:=Qg hrr.rt.own;have b0:=hrr.rt.O.cell 0;have bf:=hrr.rt.O.frozen 0;have bl:=hrr.rt.O.lt;simp only[Wab,Waa] at b0;clear hrr
    by_cases hk2:k<N+1
    ·obtain⟨px,hpx⟩:∃ px,X.P[k]?=some px:=⟨_,Waj (by rw[SS.P_length,HXL.o.1];exact hk2)⟩;obtain⟨py,hpy⟩:∃ py,Y.P[k]?=some py:=⟨_,Waj (by rw[SS.P_length,HXL.o.2];exact hk2)⟩;have HPX2:=Hm hpx;have HPY2:=Hm hpy;have hlx:=Qaq hpx;have hly:=Qaq hpy;have hbx:=HBX.o.1;have hby:=HBX.o.2;clear hpx hpy;obtain⟨gx0,gx1,gy0,gy1⟩:=HGX.o.at_ HRR.o.rt.bel
     cases first
     ·skip
      obtain⟨ay,rfl,hyl,hyc⟩:=Qad (HPY.o.below (HW0.o _ HRR.o.rt.bel)) rfl hk2 HPY2.o;go_wp2_with fail;refine (Qa8 (n:=(py.length:Int)) (by omega) bl HRR.o.rt.O HRR.o.rt.own (by omega)).mono ?_;intro e w10 hc10;obtain⟨rfl,v10,hrt10⟩:=HRR.o.rt.cl hc10;have HRT10:=Hm hrt10;have bl10:=hrt10.sz;obtain⟨gx0,gx1,gy0,gy1⟩:=HGX.o.at_ hrt10.bel;clear hc10 hrt10 hyc;obtain⟨ax,rfl,hxl,hxc⟩:=Qad (HPX.o.below (HW0.o _ HRT10.o.bel)) rfl hk2 HPX2.o;go_wp2_with fail;refine (Qiu (by omega) bl10 HRT10.o.O HRT10.o.own (by have:=(Qcd py.length).2;rw[Wad];omega)).mono ?_;intro e w11 hc11;obtain⟨rfl,v11,hrt11⟩:=HRT10.o.cl hc11;have hgp:=(Qac false px py).2;obtain⟨out2,hO2⟩:∃ o,o=out++YB false px py:=⟨_,rfl⟩
      have HRT11:Hd (RTx (w9.heap.size+1+1) W0 w11 v11 out2):=⟨by
       rw[Wah] at hrt11;rw[hO2];exact hrt11⟩
      have hlo2:out2.length≤out.length+2:=by rw[hO2,Wad];omega
      have HO2:=Hm hO2;clear hO2 hgp;have b1:=HRT11.o.O.cell 0;have bf1:=HRT11.o.O.frozen 0;have bl11:=HRT11.o.sz;obtain⟨gx0,gx1,gy0,gy1⟩:=HGX.o.at_ HRT11.o.bel;simp only[Wab,Waa] at b1;obtain⟨A11,c11,rfl⟩:=Qg HRT11.o.own;clear hc11 hrt11
      by_cases hkN:k=N
      ·have HK:=Hm hkN
       have HEX:Hd (px=X.e∧py=Y.e):=⟨by
        have h1:=HPX2.o;have h2:=HPY2.o;rw[hkN,← HXL.o.1,J2] at h1;rw[hkN,← HXL.o.2,J2] at h2
        exact⟨(Wbg h1).symm,(Wbg h2).symm⟩⟩
       subst hkN;have hkk:((k:Int) == k)=true:=beq_self_eq_true _;go_wp2_with fail
       exact⟨⟨k+1,_,_,by go_num,HRR.o.last HXL.o.1 HXL.o.2 rfl HO2.o HEX.o HRT11.o⟩,by simp only[intOf];omega⟩
      ·have hkk:((k:Int) == N)=false:=by rw[Waf];omega
       have hk3:k<N:=by omega
       obtain⟨⟨px',dx⟩,ex⟩:∃ z,X.l[k]?=some z:=⟨_,Waj (by rw[HXL.o.1];exact hk3)⟩;obtain⟨⟨py',dy⟩,ey⟩:∃ z,Y.l[k]?=some z:=⟨_,Waj (by rw[HXL.o.2];exact hk3)⟩;have hexk:X.l[k]'(by rw[HXL.o.1];exact hk3)=(px',dx):=by rw[Waj (by rw[HXL.o.1];exact hk3)] at ex;exact Wbg ex
       have heyk:Y.l[k]'(by rw[HXL.o.2];exact hk3)=(py',dy):=by rw[Waj (by rw[HXL.o.2];exact hk3)] at ey;exact Wbg ey
       have hpxe:px'=px:=by have h1:=HPX2.o;rw[Jz (by rw[HXL.o.1];exact hk3),hexk] at h1;exact Wbg h1
       have hpye:py'=py:=by have h1:=HPY2.o;rw[Jz (by rw[HXL.o.2];exact hk3),heyk] at h1;exact Wbg h1
       subst hpxe hpye;have hdx:X.D[k]?=some dx:=by rw[J3 (by rw[HXL.o.1];exact hk3),hexk]
       have hdy:Y.D[k]?=some dy:=by rw[J3 (by rw[HXL.o.2];exact hk3),heyk]
       obtain⟨adx,rfl,hdxl,hdxc⟩:=Qae (HDX.o.below (HW0.o _ HRT11.o.bel)) rfl hk3 hdx;obtain⟨ady,rfl,hdyl,hdyc⟩:=Qae (HDY.o.below (HW0.o _ HRT11.o.bel)) rfl hk3 hdy;have HEXK:=Hm ex;have HEYK:=Hm ey;clear hexk heyk hdx hdy ex ey
       cases dy
       ·cases dx
        ·go_wp2_with fail;refine (Qa8 (n:=1) (by omega) bl11 HRT11.o.O HRT11.o.own (by omega)).mono ?_;intro e w12 hc12;obtain⟨rfl,v12,hrt12⟩:=HRT11.o.cl hc12;have HRT12:=Hm hrt12;clear hc12 hrt12;go_wp2_with fail
         exact⟨⟨k+1,_,_,by go_num,HRR.o.next HXL.o.1 HXL.o.2 hk3 HEXK.o HEYK.o HO2.o HRT12.o⟩,by simp only[intOf];omega⟩
        ·go_wp2_with (at_builtin;refine Qx Q9 #[.int .i64 0,.int .i64 1,.string ⟨#[]⟩] HRT11.o.own rfl rfl rfl rfl (by simp) rfl (Q5 rfl rfl rfl) (by unfold maxLen;omega) (by omega) bl11 ?_;intro v12 w12 hown12 hbel12 hgr12 hnew12;obtain⟨A12,k12,rfl⟩:=Qg hown12;have hO12:=HRT11.o.O.below hbel12 (by omega);have c12:=hO12.cell 0;have f12:=hO12.frozen 0;simp only[Wab,Waa] at c12;have HW12:=Hm hown12;have HG12:=Hm hgr12;clear hown12 hgr12 hbel12 hnew12 hO12)
         exact⟨⟨k+1,_,_,by go_num,HRR.o.next HXL.o.1 HXL.o.2 hk3 HEXK.o HEYK.o HO2.o (HRT11.o.snoc (p:=⟨0,1,[]⟩) rfl HW12.o HG12.o)⟩,by simp only[intOf];omega⟩
       ·have HQ:Hd (RTx (w9.heap.size+1+1) W0 w11 (.slice A11 out2.length c11) (out2++Yx dx true)):=⟨by
         rw[show Yx dx true=[] from rfl,Wam];exact HRT11.o⟩
        go_wp2_with fail
        exact⟨⟨k+1,_,_,by go_num,HRR.o.next HXL.o.1 HXL.o.2 hk3 HEXK.o HEYK.o HO2.o HQ.o⟩,by simp only[intOf];omega⟩
     ·skip
      obtain⟨ax,rfl,hxl,hxc⟩:=Qad (HPX.o.below (HW0.o _ HRR.o.rt.bel)) rfl hk2 HPX2.o;go_wp2_with fail;refine (Qiu (by omega) bl HRR.o.rt.O HRR.o.rt.own (by omega)).mono ?_;intro e w10 hc10;obtain⟨rfl,v10,hrt10⟩:=HRR.o.rt.cl hc10;have HRT10:=Hm hrt10;have bl10:=hrt10.sz;obtain⟨gx0,gx1,gy0,gy1⟩:=HGX.o.at_ hrt10.bel;clear hc10 hrt10 hxc;obtain⟨ay,rfl,hyl,hyc⟩:=Qad (HPY.o.below (HW0.o _ HRT10.o.bel)) rfl hk2 HPY2.o;go_wp2_with fail;refine (Qa8 (n:=(py.length:Int)) (by omega) bl10 HRT10.o.O HRT10.o.own (by have:=(Qf9 px).2;rw[Wad];omega)).mono ?_;intro e w11 hc11;obtain⟨rfl,v11,hrt11⟩:=HRT10.o.cl hc11;have hgp:=(Qac true px py).2;obtain⟨out2,hO2⟩:∃ o,o=out++YB true px py:=⟨_,rfl⟩
      have HRT11:Hd (RTx (w9.heap.size+1+1) W0 w11 v11 out2):=⟨by
       rw[Wah] at hrt11;rw[hO2];exact hrt11⟩
      have hlo2:out2.length≤out.length+2:=by rw[hO2,Wad];omega
      have HO2:=Hm hO2;clear hO2 hgp;have b1:=HRT11.o.O.cell 0;have bf1:=HRT11.o.O.frozen 0;have bl11:=HRT11.o.sz;obtain⟨gx0,gx1,gy0,gy1⟩:=HGX.o.at_ HRT11.o.bel;simp only[Wab,Waa] at b1;obtain⟨A11,c11,rfl⟩:=Qg HRT11.o.own;clear hc11 hrt11
      by_cases hkN:k=N
      ·have HK:=Hm hkN
       have HEX:Hd (px=X.e∧py=Y.e):=⟨by
        have h1:=HPX2.o;have h2:=HPY2.o;rw[hkN,← HXL.o.1,J2] at h1;rw[hkN,← HXL.o.2,J2] at h2
        exact⟨(Wbg h1).symm,(Wbg h2).symm⟩⟩
       subst hkN;have hkk:((k:Int) == k)=true:=beq_self_eq_true _;go_wp2_with fail
       exact⟨⟨k+1,_,_,by go_num,HRR.o.last HXL.o.1 HXL.o.2 rfl HO2.o HEX.o HRT11.o⟩,by simp only[intOf];omega⟩
      ·have hkk:((k:Int) == N)=false:=by rw[Waf];omega
       have hk3:k<N:=by omega
       obtain⟨⟨px',dx⟩,ex⟩:∃ z,X.l[k]?=some z:=⟨_,Waj (by rw[HXL.o.1];exact hk3)⟩;obtain⟨⟨py',dy⟩,ey⟩:∃ z,Y.l[k]?=some z:=⟨_,Waj (by rw[HXL.o.2];exact hk3)⟩;have hexk:X.l[k]'(by rw[HXL.o.1];exact hk3)=(px',dx):=by rw[Waj (by rw[HXL.o.1];exact hk3)] at ex;exact Wbg ex
       have heyk:Y.l[k]'(by rw[HXL.o.2];exact hk3)=(py',dy):=by rw[Waj (by rw[HXL.o.2];exact hk3)] at ey;exact Wbg ey
       have hpxe:px'=px:=by have h1:=HPX2.o;rw[Jz (by rw[HXL.o.1];exact hk3),hexk] at h1;exact Wbg h1
       have hpye:py'=py:=by have h1:=HPY2.o;rw[Jz (by rw[HXL.o.2];exact hk3),heyk] at h1;exact Wbg h1
       subst hpxe hpye;have hdx:X.D[k]?=some dx:=by rw[J3 (by rw[HXL.o.1];exact hk3),hexk]
       have hdy:Y.D[k]?=some dy:=by rw[J3 (by rw[HXL.o.2];exact hk3),heyk]
       obtain⟨adx,rfl,hdxl,hdxc⟩:=Qae (HDX.o.below (HW0.o _ HRT11.o.bel)) rfl hk3 hdx;obtain⟨ady,rfl,hdyl,hdyc⟩:=Qae (HDY.o.below (HW0.o _ HRT11.o.bel)) rfl hk3 hdy;have HEXK:=Hm ex;have HEYK:=Hm ey;clear hexk heyk hdx hdy ex ey
       cases dy
       ·cases dx
        ·go_wp2_with fail;refine (Qa8 (n:=1) (by omega) bl11 HRT11.o.O HRT11.o.own (by omega)).mono ?_;intro e w12 hc12;obtain⟨rfl,v12,hrt12⟩:=HRT11.o.cl hc12;have HRT12:=Hm hrt12;clear hc12 hrt12;go_wp2_with fail
         exact⟨⟨k+1,_,_,by go_num,HRR.o.next HXL.o.1 HXL.o.2 hk3 HEXK.o HEYK.o HO2.o HRT12.o⟩,by simp only[intOf];omega⟩
        ·go_wp2_with (at_builtin;refine Qx Q9 #[.int .i64 0,.int .i64 1,.string ⟨#[]⟩] HRT11.o.own rfl rfl rfl rfl (by simp) rfl (Q5 rfl rfl rfl) (by unfold maxLen;omega) (by omega) bl11 ?_;intro v12 w12 hown12 hbel12 hgr12 hnew12;obtain⟨A12,k12,rfl⟩:=Qg hown12;have hO12:=HRT11.o.O.below hbel12 (by omega);have c12:=hO12.cell 0;have f12:=hO12.frozen 0;simp only[Wab,Waa] at c12;have HW12:=Hm hown12;have HG12:=Hm hgr12;clear hown12 hgr12 hbel12 hnew12 hO12)
         exact⟨⟨k+1,_,_,by go_num,HRR.o.next HXL.o.1 HXL.o.2 hk3 HEXK.o HEYK.o HO2.o (HRT11.o.snoc (p:=⟨0,1,[]⟩) rfl HW12.o HG12.o)⟩,by simp only[intOf];omega⟩
       ·have HQ:Hd (RTx (w9.heap.size+1+1) W0 w11 (.slice A11 out2.length c11) (out2++Yx dx true)):=⟨by
         rw[show Yx dx true=[] from rfl,Wam];exact HRT11.o⟩
        go_wp2_with fail
        exact⟨⟨k+1,_,_,by go_num,HRR.o.next HXL.o.1 HXL.o.2 hk3 HEXK.o HEYK.o HO2.o HQ.o⟩,by simp only[intOf];omega⟩
    ·obtain rfl:k=N+1:=by omega
     have HF:=Hm (HRR.o.fin rfl)
     have HM:Hd (∃ M:Nat,was out=M∧M≤4000000∧Qc out≤4000000):=⟨by
      obtain⟨_,_,e3⟩:=ZM HRR.o.arg;have h1:=HUL.o;have h2:=Zk HRR.o.arg;rw[HF.o] at e3;obtain⟨M,hM⟩:=Was h2
      exact⟨M,hM,by omega,by omega⟩⟩
     obtain⟨M,hM1,hM2,hM3⟩:=HM.o;have HM1:=Hm hM1;clear hM1 HM;go_wp2_with fail;refine (JH (Sl.of_own HRR.o.rt.own) HRR.o.arg HM1.o (by omega) (by omega) (by omega)).mono ?_;rintro e w10 ⟨⟨vp10,vd10,rfl,hp10,hd10⟩,hb10⟩;have HB10:=Hm (Qb (HB9.o.trans ((HW0.o _ HRR.o.rt.bel).mono HB9.o.size)) hb10);have HP10:=Hm hp10;have HD10:=Hm hd10;clear hb10 hp10 hd10;go_wp2_with fail;refine (Qc7 HP10.o HD10.o (by omega) (by rw[J4];omega)).mono ?_;rintro e w11 ⟨⟨⟨v11,rfl,hs11⟩,hb11⟩,hf11⟩;have HF11:Hd (Frs w.heap.size v11):=⟨(hf11 _ rfl).mono HB10.o.size⟩;clear hf11;rw[Qbr HRR.o.arg,Qav HRR.o.arg,HF.o] at hs11;have HB11:=Hm (Qb HB10.o hb11);have HS11:=Hm hs11;clear hb11 hs11;go_wp2_with fail;go_ret2
     exact⟨⟨HB11.o,v11,by rw[HTC.o]<;>rfl,fun _=>HS11.o,fun h=>absurd HTC.o h⟩,frE HF11.o⟩
  ·have HTC:Hd (trc la lb=2):=⟨by unfold trc;rw[if_pos H0.o,if_neg hw]⟩;have hw':(was lb == (N:Int))=false:=by rw[Waf,← HN.o];exact fun e=>hw e.symm
   clear hw;go_wp2_with fail;go_ret2
   exact⟨⟨HB3.o,.slice none 0 0,by rw[HTC.o]<;>rfl,fun h=>by rw[HTC.o] at h;exact absurd h (by decide),fun _=>rfl⟩,frE (Frs.nil _)⟩
 ·have HTC:Hd (trc la lb=QF la lb):=⟨by unfold trc;rw[if_neg h0]⟩;have H0:=Hm h0;have h0':(QF la lb == 0)=false:=by rw[Waf];exact h0
  clear h0;generalize QF la lb=z at *;go_wp2_with fail;go_ret2
  exact⟨⟨HB1.o,.slice none 0 0,by rw[HTC.o]<;>rfl,fun h=>by rw[HTC.o] at h;exact absurd h H0.o,fun _=>rfl⟩,frE (Frs.nil _)⟩
end
end
section
open Go.RowKit
theorem Jd:El prog 229 231 2 16:=El.mk' underlying229 (by kernel_rfl) (by decide)
theorem Qi7 {l:List PT}{k:Nat}(h:k<l.length):Qf (l.take (k+1))=Qf (l.take k)++l[k].exp:=by
 rw[Wag h,YT,Yc,Jg,Wam]
structure CR (B wr:World)(mid:Value)(ms:List Cl)(L:Nat):Prop where
 own:wr.ownsRow B.heap.size 231 2 mid ms.length (clv ms)
 bel:Below B.heap.size B wr
 len:ms.length≤L
structure CQ (B wr:World)(mid:Value)(ms:List Cl)(L P:Nat)(p:PT):Prop where
 cr:CR B wr mid ms L
 pb:Blk wr P 113 #[.int .i64 p.keep,.int .i64 p.drop,.string ⟨p.put.toArray⟩]
 ne:∀ b,mid.ownBlock=some b→b≠P
 ge:B.heap.size≤P
section
variable {B wr w':World}{mid mid':Value}{ms ms':List Cl}{L P:Nat}{p:PT}
theorem CR.new (B:World):CR B B (.slice none 0 0) [] 0:=⟨World.ownsRow_nil _ _ _ _,Wac _ _,Wak _⟩
theorem CR.box (h:CR B wr mid ms L)(p:PT):CQ B (wr.alloc (.cells #[.int .i64 p.keep,.int .i64 p.drop,.string ⟨p.put.toArray⟩] 113)) mid ms L wr.heap.size p :=
 ⟨⟨h.own.alloc _,Qa h.bel _,h.len⟩,Blk.new _ _ _,fun b hb=>by have:=(h.own.lt b hb).2;omega,h.bel.size⟩
theorem CQ.add {n:Nat}{ys:List Value}(h:CQ B wr mid ms L P p)(hn:ms.length+n=ms'.length)(hc:clv ms'=clv ms++ys)(ho:w'.ownsRow B.heap.size 231 2 mid' (ms.length+n) (clv ms++ys))(hb:Below B.heap.size wr w')(hg:wr.grownBy w' mid.ownBlock)
  (hnew:∀ k,mid'.ownBlock=some k→mid.ownBlock=some k∨wr.heap.size≤k):CQ B w' mid' ms' (L+n) P p:=by
 refine⟨⟨by rw[← hn,hc];exact ho,h.cr.bel.trans hb,by have:=h.cr.len;omega⟩,h.pb.only (Zzz hg) (fun e=>h.ne P e.symm rfl),fun b hb'=>?_,h.ge⟩;rcases hnew b hb' with e | e
 ·exact h.ne b e
 ·have:=h.pb.lt;omega
end
def tk (l:List PT)(k:Nat):Nat:=((l.take k).map (fun p=>p.keep.toNat+p.put.length)).sum
theorem Qi8 {l:List PT}{k:Nat}(h:k<l.length):tk l (k+1)=tk l k+(l[k].keep.toNat+l[k].put.length):=by
 unfold tk;rw[Wag h,Wbo,List.sum_append];simp
theorem Qi9 {l:List PT}(h:∀ p∈l,p.arg)(k:Nat):(tk l k:Int)≤was l+Qc l:=by
 unfold tk
 induction l generalizing k with
 | nil=>simp[was,Qc]
 | cons p l ih =>
  have h1:=h p (by simp);have h2:∀ q∈l,q.arg:=fun q hq=>h q (by simp[hq])
  have h3:=Zk h2;obtain⟨_,hx,hy⟩:=h1;rw[was,Qc]
  cases k with
  | zero=>simp;omega
  | succ k =>
   have:=ih h2 k
   rw[List.take_succ_cons,List.map_cons,List.sum_cons];omega
theorem Qs9 {l:List PT}(h:∀ p∈l,p.arg){p:PT}(hp:p∈l):p.keep+p.drop≤was l:=by
 induction l with
 | nil=>cases hp
 | cons q l ih =>
  have h2:∀ q∈l,q.arg:=fun q hq=>h q (by simp[hq])
  have h3:=Zk h2;obtain⟨_,hx,hy⟩:=h q (by simp);rw[was];rcases Wbk.1 hp with rfl | hm
  ·omega
  ·have:=ih h2 hm;omega
theorem Qja {l:List PT}{n:Nat}(h:Mo l n)(ha:∀ p∈l,p.arg){p:PT}(hp:p∈l):p.put.length≤900000∧p.keep≤1000000∧p.drop≤1000000:=by
 have h1:=h.bd ha;have h2:=Qs9 ha hp
 have h3:p.put.length≤Qc l:=by
  clear h1 h2 h ha
  induction l with
  | nil=>cases hp
  | cons q l ih =>
   rw[Qc];rcases Wbk.1 hp with rfl | hm
   ·omega
   ·have:=ih hm;omega
 obtain⟨_,hx,hy⟩:=ha p hp;omega
section
attribute [local go_sem] Qr Xp
theorem Qta {la lb:List PT}{va vb:Value}{na nb:Nat}{w:World}(ha:Sl w 3 va na (opv la))(hb:Sl w 3 vb nb (opv lb))(hfa:Mo la na)(hfb:Mo lb nb) :
  Calls prog 80 #[va,vb] w (Qga (cmc la lb) (cm (Qf la) (Qf lb)) w):=by
 have hla:la.length=na:=by have:=ha.len;rw[QH] at this;omega
 have hlb:lb.length=nb:=by have:=hb.len;rw[QH] at this;omega
 have HA:=Hm ha;have HB:=Hm hb;have HFA:=Hm hfa;have HFB:=Hm hfb;obtain⟨A1,c1,rfl,-⟩:=ha;obtain⟨A2,c2,rfl,-⟩:=hb;have hna:=hfa.len;have hnb:=hfb.len;clear hfa hfb;go_enter func80,ntmps80
 go_wp2_with fail;refine (Qjn HA.o HB.o HFA.o.put HFB.o.put).mono ?_;rintro e w1 ⟨rfl,hb1⟩;have HB1:=Hm hb1;clear hb1
 by_cases h0:QF la lb=0
 ·obtain⟨ga,gb⟩:=Qal h0;have harga:∀ p∈la,p.arg:=fun p hp=>(ga p hp).1
  have hargb:∀ p∈lb,p.arg:=fun p hp=>(gb p hp).1
  obtain⟨f1,f2,f3⟩:=HFA.o.bd harga;obtain⟨f4,f5,f6⟩:=HFB.o.bd hargb;have f7:=Qdm harga;have ea:=Zl f3 (by omega);have eb:=Zl f6 (by omega);have ec:=Zl (a:=comes la) f7.1 (by omega);have HEA:=Hm ea;have HEB:=Hm eb;have HEC:=Hm ec;have HARA:=Hm harga;have HARB:=Hm hargb;obtain⟨N,hN⟩:=Was f3;obtain⟨M,hM⟩:=Was f7.1;have HN:=Hm hN;have HM:=Hm hM;have hN2:N≤1000000:=by omega
  have hM2:M≤1900000:=by omega
  have HWB:Hd (was lb≤1000000∧Qc lb≤900000∧0≤was lb∧Qc la≤900000):=⟨by omega,by omega,f6,by omega⟩;have HTA:Hd (∀ k,tk la k≤2000000):=⟨fun k=>by have:=Qi9 harga k;omega⟩;have HTB:Hd (∀ k,tk lb k≤2000000):=⟨fun k=>by have:=Qi9 hargb k;omega⟩;rw[h0];have H0:=Hm h0;clear h0 ga gb harga hargb f1 f2 f3 f4 f5 f6 f7 ea eb ec hN hM;go_wp2_with fail;refine (Xg (HA.o.below HB1.o)).mono ?_;rintro e w2 ⟨he,hb2⟩;rw[HEA.o,HEC.o,HN.o,HM.o] at he;subst he;have HB2:=Hm (Qb HB1.o hb2);clear hb2;go_wp2_with fail;refine (Xg (HB.o.below HB2.o)).mono ?_;rintro e w3 ⟨he,hb3⟩;rw[HEB.o] at he;subst he;have HB3:=Hm (Qb HB2.o hb3);clear hb3
  by_cases hw:was lb=M
  ·have HTC:Hd (cmc la lb=0):=⟨by unfold cmc;rw[if_pos H0.o,if_pos (by rw[hw,HM.o])]⟩;have HW:=Hm hw;have hw':((M:Int) == M)=true:=beq_self_eq_true _;rw[hw]
   have HUA:Hd (Qj (Qf la)=N∧Q6 (Qf la)=M∧Qj (Qf lb)=M):=⟨by
    obtain⟨a1,a2,_⟩:=ZM HARA.o;obtain⟨b1,_,_⟩:=ZM HARB.o;have h1:=HN.o;have h2:=HM.o;omega⟩
   clear hw;go_wp2_with fail
   go_loopw [11,12,46] (fun mid at_ i wr=>∃ k a:Nat,k≤na∧i=.int .i64 k∧at_=.int .i64 a∧Qj (Qf (la.take k))=a∧a≤1000000∧CR w3 wr mid (Qq 0 (Qf (la.take k))) (tk la k)) (fun _ _ i _=>na-(intOf i).toNat)
   case atStart=>exact⟨0,0,by omega,rfl,rfl,rfl,by omega,CR.new _⟩
   case round =>
    obtain⟨wa,rfl⟩:∃ W,W=wr:=⟨_,rfl⟩;obtain⟨k,a,hk,rfl,rfl,hua,hab,hcr⟩:=hrel;have HCR:=Hm hcr;have hbz:=hcr.bel.size
    by_cases hkn:k<na
    ·obtain⟨b,o,c',hv,hlt,c0,c1,c2⟩:=(HA.o.below (Qb HB3.o hcr.bel)).part hkn (by omega)
     cases hv
     have HEX:=Hm (Qi7 (l:=la) (k:=k) (by omega));have harg:=HARA.o _ (Wau (h:=(by omega:k<la.length)));have hutA:=Qg6 la (k+1);rw[HUA.o.1] at hutA;have HTK:=Hm (Qi8 (l:=la) (k:=k) (by omega));have ht0:=HTA.o k;have hfew:=Qja HFA.o HARA.o (Wau (h:=(by omega:k<la.length)));have HEA2:=Hm (Qg1 harg);have HBX:=Hm (hcr.box (la[k]'(by omega)));have hml:=hcr.len;obtain⟨Am,cm_,rfl⟩:=Qg hcr.own;generalize la[k]=p at *;generalize tk la k=s0 at *;obtain⟨x,y,z⟩:=p;obtain⟨_,hx,hy⟩:=harg;obtain⟨hf1,hf2,hf3⟩:=hfew;obtain⟨x,rfl⟩:=Was hx;obtain⟨y,rfl⟩:=Was hy;dsimp only at hf1 hf2 hf3 c0 c1 c2;clear hx hy hcr
     have HMA:Hd (Qq 0 (Qf (la.take (k+1)))=Qq 0 (Qf (la.take k)++List.replicate x PT.k1++z.map PT.byte)∧Qj (Qf (la.take (k+1)))=a+x+y):=⟨by
      rw[HEX.o,HEA2.o];dsimp only;rw[Int.toNat_natCast,Int.toNat_natCast,← Wah,← Wah];refine⟨by rw[Qcr,Qo7,Wam],?_⟩;rw[QS,QS,QS,Ju,XD,Qg2,hua];omega⟩
     rw[HMA.o.2] at hutA;have HAW:=Hm hutA;clear hutA;generalize Qf (la.take k)=u at *;have HUA2:=Hm hua;clear hua HEX HEA2;go_wp2_with fail
     go_loopw [11,12,52] (fun mid at_ cnt wq=>∃ j t:Nat,j≤x∧cnt=.int .i64 j∧at_=.int .i64 t∧t=a+j∧CQ w3 wq mid (Qq 0 (u++List.replicate j PT.k1)) (s0+j) wa.heap.size ⟨x,y,z⟩) (fun _ _ cnt _=>x-(intOf cnt).toNat)
     case atStart=>exact⟨0,a,by omega,rfl,rfl,rfl,by simpa using HBX.o⟩
     case round =>
      obtain⟨j,t,hj,rfl,rfl,ht,hcq⟩:=hrel;have HCQ:=Hm hcq;have htb:t≤2000000:=by omega
      have HT:=Hm ht;clear ht;obtain⟨Aj,cj,rfl⟩:=Qg hcq.cr.own;have hml2:=hcq.cr.len;have p1:=hcq.pb.cell 1;have p2:=hcq.pb.cell 2;have hbz2:=hcq.cr.bel.size;simp only[Wab,Waa,Wae] at p1 p2;clear hcq
      by_cases hjx:j<x
      ·have HE:Hd (Qq 0 (u++List.replicate (j+1) PT.k1)=Qq 0 (u++List.replicate j PT.k1)++[⟨t,0⟩]):=⟨by
        rw[List.replicate_succ',← Wah,Qcr,Qo5,QS,Ju,HUA2.o,Nat.zero_add,HT.o]⟩
       have HCV:Hd (∀ ms:List Cl,clv (ms++[⟨t,0⟩])=clv ms++(#[.int .i64 (t:Int),.int .u8 0]:Array Value).toList):=⟨fun ms=>by rw[XP,Qct]<;>rfl⟩;generalize Qq 0 (u++List.replicate j PT.k1)=ms at *;go_wp2_with (at_builtin;refine Qx Jd #[.int .i64 (t:Int),.int .u8 0] HCQ.o.cr.own rfl rfl rfl rfl (by simp) rfl (Xo rfl rfl) (by unfold maxLen;omega) (by omega) hbz2 ?_;intro v9 w9 hown9 hbel9 hgr9 hnew9;have HQ9:=Hm (HCQ.o.add (ms':=ms++[⟨t,0⟩]) (n:=1) (by simp) (HCV.o ms) hown9 hbel9 hgr9 hnew9);obtain⟨A9,k9,rfl⟩:=Qg hown9;clear hown9 hbel9 hgr9 hnew9)
       exact⟨⟨j+1,t+1,by omega,by go_num,by go_num,by have:=HT.o;omega,by rw[HE.o];exact HQ9.o⟩,by simp only[intOf];omega⟩
      ·obtain rfl:j=x:=by omega
       clear HBX;go_wp2_with fail
       go_loopw [11,65] (fun mid cnt wz=>∃ i:Nat,i≤z.length∧cnt=.int .i64 i∧CQ w3 wz mid (Qq 0 (u++List.replicate j PT.k1++(z.take i).map PT.byte)) (s0+j+i) wa.heap.size ⟨j,y,z⟩) (fun _ cnt _=>z.length-(intOf cnt).toNat)
       case atStart=>exact⟨0,by omega,rfl,by simpa using HCQ.o⟩
       case round =>
        obtain⟨i,hi,rfl,hcq⟩:=hrel;have HCZ:=Hm hcq;obtain⟨Az,cz,rfl⟩:=Qg hcq.cr.own;have hml3:=hcq.cr.len;have p1:=hcq.pb.cell 1;have p2:=hcq.pb.cell 2;have hbz3:=hcq.cr.bel.size;simp only[Wab,Waa,Wae] at p1 p2;clear hcq
        by_cases hiz:i<z.length
        ·have HE:Hd (Qq 0 (u++List.replicate j PT.k1++(z.take (i+1)).map PT.byte)=Qq 0 (u++List.replicate j PT.k1++(z.take i).map PT.byte)++[⟨-1,U.at_ z i⟩]):=⟨by
          rw[take_at hiz,Wbo,List.map_cons,List.map_nil,← Wah,Qcr,Qo6]⟩
         have e0:=fun hh=>getD_at (s:=z) (j:=i) hiz hh
         generalize Qq 0 (u++List.replicate j PT.k1++(z.take i).map PT.byte)=ms at *;generalize U.at_ z i=cc at *;have hc256:cc.toNat<256:=cc.toNat_lt;have HCV:Hd (clv (ms++[⟨-1,cc⟩])=clv ms++(#[.int .i64 (-1),.int .u8 (cc.toNat:Int)]:Array Value).toList):=⟨by rw[XP,Qct]<;>rfl⟩;go_wp2_with (at_builtin;refine Qx Jd #[.int .i64 (-1),.int .u8 (cc.toNat:Int)] HCZ.o.cr.own rfl rfl rfl rfl (by simp) rfl (Xo rfl rfl) (by unfold maxLen;omega) (by omega) hbz3 ?_;intro v9 w9 hown9 hbel9 hgr9 hnew9;have HQ9:=Hm (HCZ.o.add (ms':=ms++[⟨-1,cc⟩]) (n:=1) (by simp) HCV.o hown9 hbel9 hgr9 hnew9);obtain⟨A9,k9,rfl⟩:=Qg hown9;clear hown9 hbel9 hgr9 hnew9)
         exact⟨⟨i+1,by omega,by go_num,by rw[HE.o];exact HQ9.o⟩,by simp only[intOf];omega⟩
        ·obtain rfl:i=z.length:=by omega
         have hE:Qq 0 (u++List.replicate j PT.k1++(z.take z.length).map PT.byte)=Qq 0 (Qf (la.take (k+1))):=by rw[Wbe,← HMA.o.1]
         rw[hE] at HCZ hml3 ⊢;clear hE;go_wp2_with fail
         exact⟨⟨k+1,t+y,by omega,by go_num,by go_num,by rw[HMA.o.2];have:=HT.o;omega,by have:=HT.o;have:=HAW.o;omega,⟨HCZ.o.cr.own,HCZ.o.cr.bel,by have h1:=HCZ.o.cr.len;have h2:=HTK.o;omega⟩⟩,by simp only[intOf];omega⟩
    ·obtain rfl:k=na:=by omega
     rw[show la.take k=la from by rw[← hla,Wbe]] at hcr hua HCR;have HML:Hd ((Qq 0 (Qf la)).length=M):=⟨by rw[Qg3 Qdq];exact HUA.o.2.1⟩
     have HEC2:Hd (Q4 (Qf lb) (Qq 0 (Qf la))=Qq 0 (cm (Qf la) (Qf lb))∧Qj (cm (Qf la) (Qf lb))=N∧∀ p∈cm (Qf la) (Qf lb),Yo p):=⟨by
      obtain⟨x1,x2,x3⟩:=Qro (x:=Qf la) (y:=Qf lb) Qdq Qdq (by rw[HUA.o.2.1,HUA.o.2.2]) 0
      exact⟨x1.symm,by rw[x2];exact HUA.o.1,x3⟩⟩
     have HUL:Hd ((Q4 (Qf lb) (Qq 0 (Qf la))).length≤6000000):=⟨by
      rw[HEC2.o.1,Qg3 HEC2.o.2.2];have h1:=Qh9 (Qf la) (Qf lb);obtain⟨_,_,e3⟩:=ZM HARA.o;obtain⟨_,_,e6⟩:=ZM HARB.o;have h2:Q6 (cm (Qf la) (Qf lb))≤(cm (Qf la) (Qf lb)).length:=Qpd _;have h3:=HWB.o;have h4:=HN.o;have h5:=HW.o;omega⟩
     have HMS:Hd (Sl wa 2 u11 M (clv (Qq 0 (Qf la)))):=⟨by have:=Sl.of_own hcr.own;rw[HML.o] at this;exact this⟩;have HBW:Hd (Below w.heap.size w wa):=⟨Qb HB3.o hcr.bel⟩;have HAF:Hd ((u11=.slice none 0 0∧M=0)∨∃ g c,u11=.slice (some ⟨g,0,none⟩) M c):=⟨by have:=Qpe hcr.own;rw[HML.o] at this;exact this⟩;generalize Qq 0 (Qf la)=ms at *;clear hcr hua HCR;go_wp2_with fail
     go_loopw [16,12,84] (fun e at_ i wq=>∃ k2 t:Nat,k2≤nb∧i=.int .i64 k2∧at_=.int .i64 t∧Qj (Qf (lb.take k2))=t∧CR wa wq e (Q4 (Qf (lb.take k2)) ms) (tk lb k2)) (fun _ _ i _=>nb-(intOf i).toNat)
     case atStart=>exact⟨0,0,by omega,rfl,rfl,rfl,by cases ms<;>exact CR.new _⟩
     case round =>
      obtain⟨wq,rfl⟩:∃ W,W=wr:=⟨_,rfl⟩;obtain⟨k2,t,hk2,rfl,rfl,hut,hcr⟩:=hrel;have HCR2:=Hm hcr;have hbz:=hcr.bel.size
      by_cases hkn2:k2<nb
      ·obtain⟨b,o,c',hv,hlt,c0,c1,c2⟩:=(HB.o.below (Qb HBW.o hcr.bel)).part hkn2 (by omega)
       cases hv
       have HEX:=Hm (Qi7 (l:=lb) (k:=k2) (by omega));have harg:=HARB.o _ (Wau (h:=(by omega:k2<lb.length)));have HTK:=Hm (Qi8 (l:=lb) (k:=k2) (by omega));have ht0:=HTB.o k2;have hfew:=Qja HFB.o HARB.o (Wau (h:=(by omega:k2<lb.length)));have HEA2:=Hm (Qg1 harg);have HBX:=Hm (hcr.box (lb[k2]'(by omega)));have hut2:=Qg6 lb (k2+1);rw[HUA.o.2.2] at hut2;have hml:=hcr.len;obtain⟨Ae,ce_,rfl⟩:=Qg hcr.own;generalize lb[k2]=p at *;generalize tk lb k2=s0 at *;obtain⟨x,y,z⟩:=p;obtain⟨_,hx,hy⟩:=harg;obtain⟨hf1,hf2,hf3⟩:=hfew;obtain⟨x,rfl⟩:=Was hx;obtain⟨y,rfl⟩:=Was hy;dsimp only at hf1 hf2 hf3 c0 c1 c2;clear hx hy hcr
       have HMA:Hd (Qf (lb.take (k2+1))=Qf (lb.take k2)++List.replicate x PT.k1++z.map PT.byte++List.replicate y PT.d1∧Qj (Qf (lb.take (k2+1)))=t+x+y):=⟨by
        rw[HEX.o,HEA2.o];dsimp only;rw[Int.toNat_natCast,Int.toNat_natCast,← Wah,← Wah];refine⟨rfl,?_⟩;rw[QS,QS,QS,Ju,XD,Qg2,hut];omega⟩
       rw[HMA.o.2] at hut2
       have HMB:Hd (Q4 (Qf (lb.take (k2+1))) ms=Q4 (Qf (lb.take k2)++List.replicate x PT.k1++z.map PT.byte) ms):=⟨by
        rw[HMA.o.1,Qcs _ (by rw[QS,QS,Ju,XD,hut,HML.o];omega),Qpa,Wam]⟩
       have HE1:Hd (Q4 (Qf (lb.take k2)++List.replicate x PT.k1) ms=Q4 (Qf (lb.take k2)) ms++(ms.drop t).take x):=⟨by
        rw[Qcs _ (by rw[hut,HML.o];omega),Qo8,hut]⟩
       have HMU:=Hm HMA.o.2;generalize Qf (lb.take k2)=v at *;have HUT:=Hm hut;clear hut HEX HEA2 HMA;go_upto_region 30 with fail
       go_cut [11,12,16] (fun md tt e wx=>md=u11∧tt=.int .i64 t∧CQ wa wx e (Q4 (v++List.replicate x PT.k1) ms) (s0+x) wq.heap.size ⟨x,y,z⟩)
       case first =>
        have HMQ:=Hm (HMS.o.below HBX.o.cr.bel);have hsz:=HBX.o.cr.bel.size;have p0:=HBX.o.pb.cell 0;simp only[Wab,Waa] at p0;have hcl:(clv ((ms.drop t).take x)).length=x*2:=by rw[Jv,Wbb,War,HML.o];omega
        have HCL:Hd ((Q4 v ms).length+x=(Q4 (v++List.replicate x PT.k1) ms).length∧clv (Q4 (v++List.replicate x PT.k1) ms)=clv (Q4 v ms)++clv ((ms.drop t).take x)):=⟨by
         rw[HE1.o,XP,Wad,Wbb,War,HML.o]
         exact⟨by omega,rfl⟩⟩
        rcases HAF.o with ⟨rfl,hM0⟩ | ⟨g,cg,rfl⟩
        ·have HM0:=Hm hM0;clear hM0;obtain rfl:t=0:=by have:=HM0.o;omega
         obtain rfl:x=0:=by have:=HM0.o;omega
         have HNIL:Hd (clv ((ms.drop 0).take 0)=[]):=⟨List.eq_nil_of_length_eq_zero hcl⟩;go_wp2_with (at_builtin;refine Jw Jd (clv ((ms.drop 0).take 0)) (.slice none 0 0) HBX.o.cr.own (by rw[HNIL.o];exact Sl.nil _ _) rfl rfl rfl rfl (Qcu _) (by unfold maxLen;omega) (by omega) hsz ?_;intro v9 w9 hown9 hbel9 hgr9 hnew9;have HQ9:=Hm (HBX.o.add (ms':=Q4 (v++List.replicate 0 PT.k1) ms) (n:=0) HCL.o.1 HCL.o.2 hown9 hbel9 hgr9 hnew9);obtain⟨A9,k9,rfl⟩:=Qg hown9;clear hown9 hbel9 hgr9 hnew9)
         go_meet
         case rel=>exact⟨rfl,rfl,HQ9.o⟩
        ·have hsub:=HMQ.o.sub (i:=t) (m:=x) (by omega);have hcgl:M≤cg∧cg≤maxLen:=by obtain⟨_,c',hv,_,h,h',_⟩:=HMQ.o;cases hv;exact⟨h,h'⟩
         unfold maxLen at hcgl
         by_cases hcg:t=cg
         ·obtain⟨hs1,rfl⟩:=hsub.1 hcg;have HS1:=Hm hs1;clear hsub hs1;subst hcg;go_wp2_with (at_builtin;refine Jw Jd (clv ((ms.drop t).take 0)) _ HBX.o.cr.own HS1.o rfl rfl rfl rfl (Qcu _) (by unfold maxLen;omega) (by omega) hsz ?_;intro v9 w9 hown9 hbel9 hgr9 hnew9;have HQ9:=Hm (HBX.o.add (ms':=Q4 (v++List.replicate 0 PT.k1) ms) (n:=0) HCL.o.1 HCL.o.2 hown9 hbel9 hgr9 hnew9);obtain⟨A9,k9,rfl⟩:=Qg hown9;clear hown9 hbel9 hgr9 hnew9)
          go_meet
          case rel=>exact⟨rfl,rfl,HQ9.o⟩
         ·have hs1:=hsub.2;rw[Nat.zero_add] at hs1;have HS1:Hd (Sl (wq.alloc (.cells #[.int .i64 x,.int .i64 y,.string ⟨z.toArray⟩] 113)) 2 (.slice (some ⟨g,t*2,none⟩) (t+x-t) (cg-t)) x (clv ((ms.drop t).take x))):=⟨by rw[Nat.add_sub_cancel_left];exact hs1⟩;clear hsub hs1;go_wp2_with (at_builtin;refine Jw Jd (clv ((ms.drop t).take x)) _ HBX.o.cr.own HS1.o rfl rfl rfl rfl (Qcu _) (by unfold maxLen;omega) (by omega) hsz ?_;intro v9 w9 hown9 hbel9 hgr9 hnew9;have HQ9:=Hm (HBX.o.add (ms':=Q4 (v++List.replicate x PT.k1) ms) (n:=x) HCL.o.1 HCL.o.2 hown9 hbel9 hgr9 hnew9);obtain⟨A9,k9,rfl⟩:=Qg hown9;clear hown9 hbel9 hgr9 hnew9)
          go_meet
          case rel=>exact⟨rfl,rfl,HQ9.o⟩
       case rest =>
        obtain⟨rfl,rfl,hcut⟩:=hcut;have HC0:=Hm hcut;obtain⟨Ac,cc_,rfl⟩:=Qg hcut.cr.own;have p0:=hcut.pb.cell 0;have p1:=hcut.pb.cell 1;have p2:=hcut.pb.cell 2;simp only[Wab,Waa,Wae] at p0 p1 p2;clear hcut HBX;go_wp2_with fail
        go_loopw [16,100] (fun e cnt wz=>∃ i:Nat,i≤z.length∧cnt=.int .i64 i∧CQ wa wz e (Q4 (v++List.replicate x PT.k1++(z.take i).map PT.byte) ms) (s0+x+i) wq.heap.size ⟨x,y,z⟩) (fun _ cnt _=>z.length-(intOf cnt).toNat)
        case atStart=>exact⟨0,by omega,rfl,by simpa using HC0.o⟩
        case round =>
         obtain⟨i,hi,rfl,hcq⟩:=hrel;have HCZ:=Hm hcq;obtain⟨Az,cz,rfl⟩:=Qg hcq.cr.own;have hml3:=hcq.cr.len;have p0:=hcq.pb.cell 0;have p1:=hcq.pb.cell 1;have p2:=hcq.pb.cell 2;have hbz3:=hcq.cr.bel.size;simp only[Wab,Waa,Wae] at p0 p1 p2;clear hcq
         by_cases hiz:i<z.length
         ·have HE:Hd (Q4 (v++List.replicate x PT.k1++(z.take (i+1)).map PT.byte) ms=Q4 (v++List.replicate x PT.k1++(z.take i).map PT.byte) ms++[⟨-1,U.at_ z i⟩]):=⟨by
           rw[take_at hiz,Wbo,List.map_cons,List.map_nil,← Wah,Qcs _ (by rw[QS,QS,Ju,XD,HUT.o,HML.o];omega),Qo9]⟩
          have e0:=fun hh=>getD_at (s:=z) (j:=i) hiz hh
          generalize Q4 (v++List.replicate x PT.k1++(z.take i).map PT.byte) ms=es at *;generalize U.at_ z i=cc at *;have hc256:cc.toNat<256:=cc.toNat_lt;have HCV:Hd (clv (es++[⟨-1,cc⟩])=clv es++(#[.int .i64 (-1),.int .u8 (cc.toNat:Int)]:Array Value).toList):=⟨by rw[XP,Qct]<;>rfl⟩;go_wp2_with (at_builtin;refine Qx Jd #[.int .i64 (-1),.int .u8 (cc.toNat:Int)] HCZ.o.cr.own rfl rfl rfl rfl (by simp) rfl (Xo rfl rfl) (by unfold maxLen;omega) (by omega) hbz3 ?_;intro v9 w9 hown9 hbel9 hgr9 hnew9;have HQ9:=Hm (HCZ.o.add (ms':=es++[⟨-1,cc⟩]) (n:=1) (by simp) HCV.o hown9 hbel9 hgr9 hnew9);obtain⟨A9,k9,rfl⟩:=Qg hown9;clear hown9 hbel9 hgr9 hnew9)
          exact⟨⟨i+1,by omega,by go_num,by rw[HE.o];exact HQ9.o⟩,by simp only[intOf];omega⟩
         ·obtain rfl:i=z.length:=by omega
          have hE:Q4 (v++List.replicate x PT.k1++(z.take z.length).map PT.byte) ms=Q4 (Qf (lb.take (k2+1))) ms:=by rw[Wbe,← HMB.o]
          rw[hE] at HCZ hml3 ⊢;clear hE;go_wp2_with fail
          exact⟨⟨k2+1,t+x+y,by omega,by go_num,by go_num,HMU.o,⟨HCZ.o.cr.own,HCZ.o.cr.bel,by have h1:=HCZ.o.cr.len;have h2:=HTK.o;omega⟩⟩,by simp only[intOf];omega⟩
      ·obtain rfl:k2=nb:=by omega
       rw[show lb.take k2=lb from by rw[← hlb,Wbe]] at hcr hut HCR2;have HBW2:Hd (Below w.heap.size w wq):=⟨Qb HBW.o hcr.bel⟩;have HES:Hd (Sl wq 2 u16 (Q4 (Qf lb) ms).length (clv (Q4 (Qf lb) ms))):=⟨Sl.of_own hcr.own⟩;rw[HEC2.o.1] at hcr HCR2 HES HUL;have HASC:=Hm (Qpb HEC2.o.2.2 0 0 N (Wak _) (by rw[HEC2.o.2.1];omega))
       have HGE:Hd (gather (YK N (Qq 0 (cm (Qf la) (Qf lb))))=ZX (cm (Qf la) (Qf lb))):=⟨by
        have:=Qrr HEC2.o.2.2
        rw[HEC2.o.2.1] at this;exact this⟩
       obtain⟨Ae,ce_,rfl⟩:=Qg hcr.own;clear hcr hut HCR2 HMS HAF HBW;generalize cm (Qf la) (Qf lb)=U at *;generalize Qq 0 U=E at *;have hEl:=HUL.o;have hm1:=Qjl (N+1) (by omega) ((N:Int)+1) (by omega);have hm2:=Qjm N (by omega) (N:Int) rfl;go_upto_region 35 with fail
       go_cut [20] (fun s5 wx=>GCut wq N s5 wx)
       case first =>
        go_region
        all_goals
         go_wp2_with fail;go_meet
         first
          | (obtain⟨x1,x2,x3⟩:=ZZ wq 9 4 234 (ZB (N+1)) (ZC N) _;exact⟨_,_,_,rfl,⟨x3,x1,x2⟩,by omega,Qe (Qa (Qa (Qa (Wac _ _) _) _) _)⟩)
          | (obtain⟨x1,x2,x3⟩:=ZZ wq 9 234 4 (ZB (N+1)) _ (ZC N);exact⟨_,_,_,rfl,⟨x2,x1,x3⟩,by omega,Qe (Qa (Qa (Qa (Wac _ _) _) _) _)⟩)
          | (obtain⟨x1,x2,x3⟩:=ZZ wq 4 9 234 (ZC N) (ZB (N+1)) _;exact⟨_,_,_,rfl,⟨x3,x2,x1⟩,by omega,Qe (Qa (Qa (Qa (Wac _ _) _) _) _)⟩)
          | (obtain⟨x1,x2,x3⟩:=ZZ wq 4 234 9 (ZC N) _ (ZB (N+1));exact⟨_,_,_,rfl,⟨x2,x3,x1⟩,by omega,Qe (Qa (Qa (Qa (Wac _ _) _) _) _)⟩)
          | (obtain⟨x1,x2,x3⟩:=ZZ wq 234 9 4 _ (ZB (N+1)) (ZC N);exact⟨_,_,_,rfl,⟨x1,x2,x3⟩,by omega,Qe (Qa (Qa (Qa (Wac _ _) _) _) _)⟩)
          | (obtain⟨x1,x2,x3⟩:=ZZ wq 234 4 9 _ (ZC N) (ZB (N+1));exact⟨_,_,_,rfl,⟨x1,x3,x2⟩,by omega,Qe (Qa (Qa (Qa (Wac _ _) _) _) _)⟩)
       case rest =>
        obtain⟨gG,gP,gD,rfl,hgb,⟨hge1,hge2,hge3⟩,hbel0⟩:=hcut;have HB0:=Hm hbel0
        have HG0:Hd (GB wc gG gP gD N (SS.zero.padP N) (List.replicate 0 true++List.replicate (N-0) false)):=⟨by
         have:SS.zero.padD N=List.replicate 0 true++List.replicate (N-0) false:=by simp[SS.padD,SS.D,SS.zero]
         rw[← this];exact hgb⟩
        obtain⟨g0,g1⟩:=hgb.cells;clear hgb hbel0 hm1 hm2;go_wp2_with fail
        go_loopw [129] (fun i wx=>∃ j:Nat,j≤N∧i=.int .i64 j∧GB wx gG gP gD N (SS.zero.padP N) (List.replicate j true++List.replicate (N-j) false)∧Below wq.heap.size wq wx) (fun i _=>N-(intOf i).toNat)
        case atStart=>exact⟨0,by omega,rfl,HG0.o,HB0.o⟩
        case round =>
         obtain⟨wx,rfl⟩:∃ W,W=wr:=⟨_,rfl⟩;obtain⟨j,hj,rfl,hgb,hbel⟩:=hrel;have HGB:=Hm hgb;have HBB:=Hm hbel;obtain⟨g0,g1⟩:=hgb.cells
         by_cases hjN:j<N
         ·obtain⟨d0,d1⟩:=hgb.cellD (i:=j) (b:=false) (by rw[Way (by simp),List.length_replicate,Nat.sub_self,List.getElem?_replicate,if_pos (by omega)])
          have HSET:Hd (List.replicate (j+1) true++List.replicate (N-(j+1)) false=(List.replicate j true++List.replicate (N-j) false).set j true):=⟨by
           obtain⟨r,hr⟩:∃ r,N-j=r+1:=⟨N-j-1,by omega⟩;rw[hr,Qpc,show N-(j+1)=r from by omega]⟩
          have hlD:=hgb.D.lt;clear hgb hbel HG0 HB0;go_wp2_with fail
          exact⟨⟨j+1,by omega,by go_num,by rw[HSET.o];exact HGB.o.setD _ _,HBB.o.setCell (show wq.heap.size≤gD by omega) _⟩,by simp only[intOf];omega⟩
         ·obtain rfl:j=N:=by omega
          have HG1:Hd (GB wx gG gP gD j (SS.zero.padP j) (SS.zero.padT j)):=⟨by
           have:SS.zero.padT j=List.replicate j true++List.replicate (j-j) false:=by simp[SS.padT,SS.D,SS.zero]
           rw[this];exact hgb⟩
          clear hgb hbel HG0 HB0 HGB;go_wp2_with fail
          go_loopw [22,139] (fun last i wy=>∃ i2 t:Nat,i2≤E.length∧i=.int .i64 i2∧last=.int .i64 t∧((E.take i2).foldl SS.cell .zero).l.length=t∧t≤j∧Asc j t (E.drop i2)∧GB wy gG gP gD j (((E.take i2).foldl SS.cell .zero).padP j) (((E.take i2).foldl SS.cell .zero).padT j)∧Below wq.heap.size wq wy) (fun _ i _=>E.length-(intOf i).toNat)
          case atStart=>exact⟨0,0,by omega,rfl,rfl,rfl,by omega,HASC.o,HG1.o,HBB.o⟩
          case round =>
           obtain⟨wy,rfl⟩:∃ W,W=wr:=⟨_,rfl⟩;obtain⟨i2,t,hi2,rfl,rfl,hlen,htj,hasc,hgb,hbel⟩:=hrel;have HGB:=Hm hgb;have HBY:=Hm hbel;have HAS:=Hm hasc;obtain⟨g0,g1⟩:=hgb.cells;have hlG:=hgb.G.lt;have hlP:=hgb.P.lt;have hlD:=hgb.D.lt;have hlq:=hbel.size;clear HG1
           by_cases hiE:i2<E.length
           ·obtain⟨b,o,c',hv,hlt,c0,c1⟩:=(HES.o.below hbel).cl hiE hiE
            cases hv
            have HS:Hd ((E.take (i2+1)).foldl SS.cell .zero=((E.take i2).foldl SS.cell .zero).cell E[i2]):=⟨by rw[Wag hiE,List.foldl_append];rfl⟩;have hpl:=Qg5 (E.take i2) .zero;have hel:=Qph ((E.take i2).foldl SS.cell .zero);have hz0:plg SS.zero=0:=rfl;rw[Wbb] at hpl;have has2:=hasc;rw[Wbl hiE] at has2;generalize (E.take i2).foldl SS.cell .zero=S at *;generalize E[i2]=x at *;obtain⟨f,cc⟩:=x;dsimp only at c0 c1;have hc256:cc.toNat<256:=cc.toNat_lt;clear hgb hbel hasc;subst hlen
            by_cases hf:f<0
            ·rw[Asc,if_pos hf] at has2;have HA2:=Hm has2;have HSC:Hd ((E.take (i2+1)).foldl SS.cell .zero=⟨S.l,S.e++[cc]⟩):=⟨by rw[HS.o,SS.cell_put hf]⟩;obtain⟨q0,q1⟩:=HGB.o.cellP (SS.padP_at (S:=S) (N:=j));have hcv:=J5 (P:=prog) (l:=[cc]) underlying184 underlying5 underlying9 ((wy.alloc (.cells #[.int .i64 f,.int .u8 (cc.toNat:Int)] 231)).drew) #[.int .u8 (cc.toNat:Int)] 1 rfl rfl (by unfold maxLen;omega)
             have hcz:((wy.alloc (.cells #[.int .i64 f,.int .u8 (cc.toNat:Int)] 231)).drew).heap.size=wy.heap.size+1:=by
              show (wy.alloc _).heap.size=_
              rw[Waq]
             rw[hcz] at hcv
             replace hcv:(convert 184 9 (.slice (some ⟨wy.heap.size+1,0,none⟩) 1 1)).run prog (((wy.alloc (.cells #[.int .i64 f,.int .u8 (cc.toNat:Int)] 231)).alloc (.cells #[.int .u8 (cc.toNat:Int)] 5)).drew)=.ok (.string ⟨[cc].toArray⟩) (((wy.alloc (.cells #[.int .i64 f,.int .u8 (cc.toNat:Int)] 231)).alloc (.cells #[.int .u8 (cc.toNat:Int)] 5)).drew):=hcv
             clear hcz;clear has2;go_upto_region 49 with fail
             go_region
             all_goals
              go_wp2_with fail
              exact⟨⟨i2+1,S.l.length,by omega,by go_num,rfl,by rw[HSC.o],htj,HA2.o,by rw[HSC.o,← SS.padP_put];exact (((HGB.o.setP _ _).alloc _).alloc _).drew,Qe (Qa (Qa (HBY.o.setCell (show wq.heap.size≤gP by omega) _) _) _)⟩,by simp only[intOf];omega⟩
            ·rw[Asc,if_neg hf] at has2;obtain⟨hf1,hf2,hf3⟩:=has2;obtain⟨f,rfl⟩:=Was (show 0≤f by omega);dsimp only at hf1 hf2 hf3;rw[Int.toNat_natCast] at hf3;have HA2:=Hm hf3;have HSC:Hd ((E.take (i2+1)).foldl SS.cell .zero=SS.take false 1 (SS.take true (f-S.l.length) S)):=⟨by rw[HS.o,SS.cell_text (by dsimp only;omega)];rfl⟩;have hpd:∃ bb,(S.padT j)[f]?=some bb:=⟨_,Waj (by rw[SS.padT_len _ _ htj];omega)⟩;obtain⟨bb,hbb⟩:=hpd;obtain⟨d0,d1⟩:=HGB.o.cellD hbb
             have HE:Hd ((SS.take false 1 (SS.take true (f-S.l.length) S)).padP j=S.padP j∧(SS.take false 1 (SS.take true (f-S.l.length) S)).padT j=(S.padT j).set f false∧(SS.take false 1 (SS.take true (f-S.l.length) S)).l.length=f+1):=⟨by
              refine⟨?_,(SS.padT_set (by omega) (by omega)).symm,by rw[SS.take_len,SS.take_len];omega⟩;rw[SS.padP_take false (by rw[SS.take_len];omega),SS.padP_take true (by omega)]⟩
             clear hf3 hbb;go_wp2_with fail
             exact⟨⟨i2+1,f+1,by omega,by go_num,by go_num,by rw[HSC.o,HE.o.2.2],by omega,HA2.o,by rw[HSC.o,HE.o.1,HE.o.2.1];exact (HGB.o.setD _ _).alloc _,Qa (HBY.o.setCell (show wq.heap.size≤gD by omega) _) _⟩,by simp only[intOf];omega⟩
           ·obtain rfl:i2=E.length:=by omega
            rw[Wbe] at hlen HGB;have hfl:=SS.full_len (E.foldl SS.cell .zero) j (by omega)
            have HGP:Hd (Sl wy 1 (.slice (some ⟨gP,0,none⟩) (j+1) (j+1)) (j+1) (strs (YK j E).P)):=⟨by
             have h1:=HGB.o.P;have h2:(YK j E).P=(E.foldl SS.cell .zero).padP j:=SS.full_P _ _;rw[← h2] at h1;exact Sl.of_blk h1 (by unfold strs;rw[Wbi,SS.P_length];exact congrArg (·+1) hfl) (by unfold maxLen;omega)⟩
            have HGD:Hd (Sl wy 1 (.slice (some ⟨gD,0,none⟩) j j) j (bools (YK j E).D)):=⟨by
             have h1:=HGB.o.D;have h2:(YK j E).D=(E.foldl SS.cell .zero).padT j:=SS.full_D _ _;rw[← h2] at h1;exact Sl.of_blk h1 (by unfold bools;rw[Wbi,SS.D_length];exact hfl) (by unfold maxLen;omega)⟩
            have hpg:=Qpg j E;clear hgb hbel hasc hlen hfl HGB;go_wp2_with fail;refine (Qc7 HGP.o HGD.o (by omega) (by omega)).mono ?_;rintro e w11 ⟨⟨⟨v11,rfl,hs11⟩,hb11⟩,hf11⟩;have HF11:Hd (Frs w.heap.size v11):=⟨(hf11 _ rfl).mono (Qb HBW2.o HBY.o).size⟩;clear hf11;rw[HGE.o] at hs11;have HB11:=Hm (Qb (Qb HBW2.o HBY.o) hb11);have HS11:=Hm hs11;clear hb11 hs11;go_wp2_with fail;go_ret2
            exact⟨⟨HB11.o,_,by rw[HTC.o]<;>rfl,fun _=>HS11.o,fun h=>absurd HTC.o h⟩,frE HF11.o⟩
  ·have HTC:Hd (cmc la lb=2):=⟨by unfold cmc;rw[if_pos H0.o,if_neg (by rw[HM.o];exact fun e=>hw e.symm)]⟩;have hw':(was lb == (M:Int))=false:=by rw[Waf];exact hw
   clear hw;go_wp2_with fail;go_ret2
   exact⟨⟨HB3.o,.slice none 0 0,by rw[HTC.o]<;>rfl,fun h=>by rw[HTC.o] at h;exact absurd h (by decide),fun _=>rfl⟩,frE (Frs.nil _)⟩
 ·have HTC:Hd (cmc la lb=QF la lb):=⟨by unfold cmc;rw[if_neg h0]⟩;have H0:=Hm h0;have h0':(QF la lb == 0)=false:=by rw[Waf];exact h0
  clear h0;generalize QF la lb=z at *;go_wp2_with fail;go_ret2
  exact⟨⟨HB1.o,.slice none 0 0,by rw[HTC.o]<;>rfl,fun h=>by rw[HTC.o] at h;exact absurd h H0.o,fun _=>rfl⟩,frE (Frs.nil _)⟩
end
end
end Go.Proofs.YtdgdajnbkfmijaaGreatDoor
