/- Texts of the proof. -/
import Derived.WalkKit
import Derived.Below
import Derived.Laws.AppendOwn
import Derived.Laws.OwnMore
import Derived.Deep.AppendLies
import Derived.OwnWalk
import Derived.Laws.AppendOwnNone
import Derived.Laws.BytesArg
import Derived.Deep.Draws
import Derived.OneCell
import Derived.Maps.AppendAt
import Derived.Deep.RegionLaw
import Derived.ProofKit
import Derived.OpenShut
import Derived.Test.YtdgdajnbkfmijaaGreatDoorChecked
import Derived.Maps.OwnSet
import Derived.Maps.OwnOps
import Derived.WideLaws
import Derived.MapKept
import Derived.Carry
namespace Go.Proofs.YtdgdajnbkfmijaaGreatDoor
open Go.Proofs.Tryz
set_option maxRecDepth 100000
set_option maxHeartbeats 32000000
section
structure Hd (p:Prop):Prop where
 out:p
section
open Go.RowKit
theorem Waa.{u_1}:∀ {α:Type u_1} {a:α} {l:List α},(a :: l)[0]?=some a:=@List.getElem?_cons_zero
theorem Wab.{u_1}:∀ {α:Type u_1} {xs:List α} {i:Nat},xs.toArray[i]?=xs[i]?:=@List.getElem?_toArray
theorem Wac:∀ (B:Nat) (w:World),Below B w w:=@Below.refl
theorem Wad.{u_1}:∀ {α:Type u_1} {xz bs:List α},(xz++bs).length=xz.length+bs.length:=@List.length_append
theorem Wae.{u_1}:∀ {α:Type u_1} {a:α} {i:Nat} {l:List α},(a :: l)[i+1]?=l[i]?:=@List.getElem?_cons_succ
theorem Waf.{u_1}:∀ {α:Type u_1} [BEq α] [LawfulBEq α] {a b:α},(a == b)=false↔a≠b:=@beq_eq_false_iff_ne
theorem Wag.{u_1}:∀ {α:Type u_1} {i:Nat} {l:List α} (h:i < l.length),List.take (i+1) l=List.take i l++[l[i]]:=@List.take_succ_eq_append_getElem
theorem Wah.{u_1}:∀ {α:Type u_1} (xz bs cs:List α),xz++bs++cs=xz++(bs++cs):=@List.append_assoc
theorem Wai.{u_1}:∀ {α:Type u_1} {i:Nat} {a:α} {l:List α},l[i]?=some a↔∃ h,l[i]=a:=@List.getElem?_eq_some_iff
theorem Waj.{u_1}:∀ {α:Type u_1} {l:List α} {i:Nat} (h:i < l.length),l[i]?=some l[i]:=@List.getElem?_eq_getElem
theorem Wak:∀ (n:Nat),n≤n:=@Nat.le_refl
theorem Wal:∀ {n m k:Nat},n < m→m≤k→n < k:=@Nat.lt_of_lt_of_le
theorem Wam.{u_1}:∀ {α:Type u_1} (xz:List α),xz++[]=xz:=@List.append_nil
theorem Wan.{u_1}:∀ {α:Type u_1} {a:α} {xz:List α},(a :: xz).length=xz.length+1:=@List.length_cons
theorem Wao:∀ {a b:Prop},a→b→a∧b:=@And.intro
theorem Wap.{u_1}:∀ {α:Type u_1} {a:α} {xz bs:List α},a :: xz++bs=a :: (xz++bs):=@List.cons_append
theorem Waq:∀ (w:World) (o:Obj),(w.alloc o).heap.size=w.heap.size+1:=@World.size_alloc
theorem War.{u_1}:∀ {α:Type u_1} {i:Nat} {l:List α},(List.drop i l).length=l.length-i:=@List.length_drop
theorem Was:∀ {a:Int},0≤a→∃ n:Nat,a=(n:Int):=@Int.eq_ofNat_of_zero_le
theorem Wat.{u_1}:∀ {α:Type u_1} {a:α} {n:Nat},List.replicate (n+1) a=a :: List.replicate n a:=@List.replicate_succ
theorem Wau.{u_1}:∀ {α:Type u_1} {l:List α} {n:Nat} (h:n < l.length),l[n]∈l:=@List.getElem_mem
theorem Wav.{u_1,u_2}:∀ {α:Type u_1} {β:Type u_2} {f:α→β} {l:List α} {i:Nat},(List.map f l)[i]?=Option.map f l[i]?:=@List.getElem?_map
theorem Waw:∀ (n:Int),IntKind.i64.wrap n=(n+9223372036854775808) % 18446744073709551616-9223372036854775808:=@IntKind.wrap_i64
theorem Wax.{u_1}:∀ {α:Type u_1} {l:List α},0 < l.length↔l≠[]:=@List.length_pos_iff
theorem Way.{u_1}:∀ {α:Type u_1} {l₁ l₂:List α} {i:Nat},l₁.length≤i→(l₁++l₂)[i]?=l₂[i-l₁.length]?:=@List.getElem?_append_right
theorem Waz:∀ {P:Program} {fn:Func} {R:Ending→World→Prop} {a:Act} {w:World} {v:Value},Sem.run P (results fn a.tmps) w=Result.ok v w→a.defers=[]→R (Ending.returned v) w→bodyPost P fn R Exit.ret a w:=@bodyPost_ret
theorem Wba:∀ (a:Int),a≤a:=@Int.le_refl
theorem Wbb.{u_1}:∀ {α:Type u_1} {i:Nat} {l:List α},(List.take i l).length=min i l.length:=@List.length_take
theorem Wbc:∀ (w:World) (o:Obj),(w.alloc o).heap[w.heap.size]?=some o:=@heap_alloc_new
theorem Wbd.{u_1}:∀ {α:Type u_1} {a b:α},a∈[b]↔a=b:=@List.mem_singleton
theorem Wbe.{u_1}:∀ {α:Type u_1} {l:List α},List.take l.length l=l:=@List.take_length
theorem Wbf:∀ {n m k:Nat},n≤m→m≤k→n≤k:=@Nat.le_trans
theorem Wbg.{u_1}:∀ {α:Type u_1} {val val_1:α},some val=some val_1→val=val_1:=@Option.some.inj
theorem Wbh.{u_1}:∀ {α:Type u_1} (i:Nat) (l:List α),List.take i l++List.drop i l=l:=@List.take_append_drop
theorem Wbi.{u_1,u_2}:∀ {α:Type u_1} {β:Type u_2} {xz:List α} (f:α→β),(List.map f xz).length=xz.length:=@List.length_map
theorem Wbj:∀ (w:World) (o:Obj) (a:Addr),a.block < w.heap.size→(w.alloc o).cell? a=w.cell? a:=@World.cell?_alloc_lt
theorem Wbk.{u_1}:∀ {α:Type u_1} {b:α} {l:List α} {a:α},a∈b :: l↔a=b ∨ a∈l:=@List.mem_cons
theorem Wbl.{u_1}:∀ {α:Type u_1} {i:Nat} {l:List α} (h:i < l.length),List.drop i l=l[i] :: List.drop (i+1) l:=@List.drop_eq_getElem_cons
theorem Wbm.{u_1}:∀ {α:Type u_1} {i:Nat} {b:α} {xs:Array α},xs[i]?=some b↔∃ h,xs[i]=b:=@Array.getElem?_eq_some_iff
theorem Wbn.{u_1}:∀ {α:Type u_1} (xz:List α),[]++xz=xz:=@List.nil_append
theorem Wbo.{u_1,u_2}:∀ {α:Type u_1} {β:Type u_2} {f:α→β} {l₁ l₂:List α},List.map f (l₁++l₂)=List.map f l₁++List.map f l₂:=@List.map_append
end
theorem Hd.o {p:Prop}(h:Hd p):p:=h.out
theorem Hm {p:Prop}(h:p):Hd p:=⟨h⟩
namespace U
abbrev Bs:=List UInt8
def by8 (n:Int):UInt8:=UInt8.ofNat n.toNat
def right (r:Int):Bool:=decide ((0≤r∧r<55296)∨(57344≤r∧r≤1114111))
theorem right_iff {r:Int}:right r=true↔(0≤r∧r<55296)∨(57344≤r∧r≤1114111):=by unfold right;simp only[decide_eq_true_eq]
def enc (r:Int):Bs :=
 if r<128 then [by8 r]
 else if r<2048 then [by8 (192+r / 64),by8 (128+r % 64)]
 else if r<65536 then [by8 (224+r / 4096),by8 (128+r / 64 % 64),by8 (128+r % 64)]
 else [by8 (240+r / 262144),by8 (128+r / 4096 % 64),by8 (128+r / 64 % 64),by8 (128+r % 64)]
def cont (c:UInt8):Bool:=decide (128≤c.toNat∧c.toNat<192)
theorem cont_iff {c:UInt8}:cont c=true↔128≤c.toNat∧c.toNat<192:=by unfold cont;simp only[decide_eq_true_eq]
def r2 (a b:UInt8):Int:=(a.toNat:Int) % 32*64+(b.toNat:Int) % 64
def r3 (a b c:UInt8):Int:=((a.toNat:Int) % 16*64+(b.toNat:Int) % 64)*64+(c.toNat:Int) % 64
def r4 (a b c d:UInt8):Int:=(((a.toNat:Int) % 8*64+(b.toNat:Int) % 64)*64+(c.toNat:Int) % 64)*64+(d.toNat:Int) % 64
def next:Bs→Int × Nat
 | []=>(0,0)
 | a :: t =>
  if a.toNat<128 then (a.toNat,1)
  else if a.toNat<194 then (0,0)
  else if a.toNat<224 then match t with
   | b :: _=>if cont b=true then (r2 a b,2) else (0,0)
   | _=>(0,0)
  else if a.toNat<240 then match t with
   | b :: c :: _=>if cont b=true∧cont c=true∧right (r3 a b c)=true∧2048≤r3 a b c then (r3 a b c,3) else (0,0)
   | _=>(0,0)
  else if a.toNat<245 then match t with
   | b :: c :: d :: _=>if cont b=true∧cont c=true∧cont d=true∧right (r4 a b c d)=true∧65536≤r4 a b c d then (r4 a b c d,4) else (0,0)
   | _=>(0,0)
  else (0,0)
def wid (r:Int):Nat:=if r<128 then 1 else if r<2048 then 2 else if r<65536 then 3 else 4
theorem enc_length (r:Int):(enc r).length=wid r:=by
 unfold enc wid;repeat' split
 all_goals rfl
theorem wid_pos (r : Int) : 0 < wid r := by unfold wid; repeat' split
                                            all_goals omega
theorem wid_le (r : Int) : wid r ≤ 4 := by unfold wid; repeat' split
                                           all_goals omega
theorem by8_toNat {n:Int}(h:0≤n)(h2:n<256):((by8 n).toNat:Int)=n:=by
 unfold by8;rw[UInt8.toNat_ofNat'];omega
theorem Qj9 (c:UInt8):by8 (c.toNat:Int)=c:=by
 unfold by8;rw[Int.toNat_natCast];exact UInt8.ofNat_toNat
theorem YS {c:UInt8}{n:Int}(h:(c.toNat:Int)=n):by8 n=c:=by rw[← h];exact Qj9 c
theorem Qka {r:Int}(h:right r=true)(t:Bs):next (enc r++t)=(r,wid r):=by
 have hr:=right_iff.1 h;unfold enc
 split
 ·rename_i h1
  have e:((by8 r).toNat:Int)=r:=by8_toNat (by omega) (by omega);simp only[List.cons_append,List.nil_append,next];rw[if_pos (by omega),e];unfold wid;rw[if_pos h1]
 ·rename_i h1
  split
  ·rename_i h2
   have e1:((by8 (192+r / 64)).toNat:Int)=192+r / 64:=by8_toNat (by omega) (by omega);have e2:((by8 (128+r % 64)).toNat:Int)=128+r % 64:=by8_toNat (by omega) (by omega);simp only[List.cons_append,List.nil_append,next];rw[if_neg (by omega),if_neg (by omega),if_pos (by omega),if_pos (cont_iff.2 (by omega))];unfold r2 wid;rw[e1,e2,if_neg h1,if_pos h2]
   congr 1;omega
  ·rename_i h2
   split
   ·rename_i h3
    have e1:((by8 (224+r / 4096)).toNat:Int)=224+r / 4096:=by8_toNat (by omega) (by omega);have e2:((by8 (128+r / 64 % 64)).toNat:Int)=128+r / 64 % 64:=by8_toNat (by omega) (by omega);have e3:((by8 (128+r % 64)).toNat:Int)=128+r % 64:=by8_toNat (by omega) (by omega)
    have er:r3 (by8 (224+r / 4096)) (by8 (128+r / 64 % 64)) (by8 (128+r % 64))=r:=by
     unfold r3;rw[e1,e2,e3];omega
    simp only[List.cons_append,List.nil_append,next];rw[if_neg (by omega),if_neg (by omega),if_neg (by omega),if_pos (by omega),er,if_pos ⟨cont_iff.2 (by omega),cont_iff.2 (by omega),h,by omega⟩];unfold wid;rw[if_neg h1,if_neg h2,if_pos h3]
   ·rename_i h3
    have e1:((by8 (240+r / 262144)).toNat:Int)=240+r / 262144:=by8_toNat (by omega) (by omega);have e2:((by8 (128+r / 4096 % 64)).toNat:Int)=128+r / 4096 % 64:=by8_toNat (by omega) (by omega);have e3:((by8 (128+r / 64 % 64)).toNat:Int)=128+r / 64 % 64:=by8_toNat (by omega) (by omega);have e4:((by8 (128+r % 64)).toNat:Int)=128+r % 64:=by8_toNat (by omega) (by omega)
    have er:r4 (by8 (240+r / 262144)) (by8 (128+r / 4096 % 64)) (by8 (128+r / 64 % 64)) (by8 (128+r % 64))=r:=by
     unfold r4;rw[e1,e2,e3,e4];omega
    simp only[List.cons_append,List.nil_append,next]
    rw[if_neg (by omega),if_neg (by omega),if_neg (by omega),if_neg (by omega),if_pos (by omega),er,
     if_pos ⟨cont_iff.2 (by omega),cont_iff.2 (by omega),cont_iff.2 (by omega),h,by omega⟩]
    unfold wid;rw[if_neg h1,if_neg h2,if_neg h3]
theorem next_pos (s:Bs)(h:(next s).2≠0):right (next s).1=true∧(next s).2=wid (next s).1∧s=enc (next s).1++s.drop (next s).2:=by
 match s with
 | []=>simp[next] at h
 | a :: t =>
  simp only[next] at h ⊢
  by_cases h1:a.toNat<128
  ·rw[if_pos h1] at h ⊢;refine⟨right_iff.2 (by omega),by unfold wid;rw[if_pos (by omega)],?_⟩;unfold enc;rw[if_pos (by omega)];simp[Qj9]
  rw[if_neg h1] at h ⊢
  by_cases h2:a.toNat<194
  ·rw[if_pos h2] at h;exact absurd rfl h
  rw[if_neg h2] at h ⊢
  by_cases h3:a.toNat<224
  ·rw[if_pos h3] at h ⊢
   match t with
   | []=>exact absurd rfl h
   | b :: t =>
    dsimp only at h ⊢
    by_cases hb:cont b=true
    ·rw[if_pos hb] at h ⊢;have hb':=cont_iff.1 hb;have e:r2 a b=(a.toNat:Int) % 32*64+(b.toNat:Int) % 64:=rfl;refine⟨right_iff.2 (by dsimp only;omega),by unfold wid;dsimp only;rw[if_neg (by omega),if_pos (by omega)],?_⟩;unfold enc;dsimp only;rw[if_neg (by omega),if_pos (by omega),YS (c:=a) (by omega),YS (c:=b) (by omega)];rfl
    ·rw[if_neg hb] at h;exact absurd rfl h
  rw[if_neg h3] at h ⊢
  by_cases h4:a.toNat<240
  ·rw[if_pos h4] at h ⊢
   match t with
   | []=>exact absurd rfl h
   | [_]=>exact absurd rfl h
   | b :: c :: t =>
    dsimp only at h ⊢
    by_cases hb:cont b=true∧cont c=true∧right (r3 a b c)=true∧2048≤r3 a b c
    ·rw[if_pos hb] at h ⊢;obtain⟨hb1,hc1,hr,hlo⟩:=hb;have hb':=cont_iff.1 hb1;have hc':=cont_iff.1 hc1;have e:r3 a b c=((a.toNat:Int) % 16*64+(b.toNat:Int) % 64)*64+(c.toNat:Int) % 64:=rfl;refine⟨hr,by unfold wid;dsimp only;rw[if_neg (by omega),if_neg (by omega),if_pos (by omega)],?_⟩;unfold enc;dsimp only;rw[if_neg (by omega),if_neg (by omega),if_pos (by omega),YS (c:=a) (by omega),YS (c:=b) (by omega),YS (c:=c) (by omega)];rfl
    ·rw[if_neg hb] at h;exact absurd rfl h
  rw[if_neg h4] at h ⊢
  by_cases h5:a.toNat<245
  ·rw[if_pos h5] at h ⊢
   match t with
   | []=>exact absurd rfl h
   | [_]=>exact absurd rfl h
   | [_,_]=>exact absurd rfl h
   | b :: c :: d :: t =>
    dsimp only at h ⊢
    by_cases hb:cont b=true∧cont c=true∧cont d=true∧right (r4 a b c d)=true∧65536≤r4 a b c d
    ·rw[if_pos hb] at h ⊢;obtain⟨hb1,hc1,hd1,hr,hlo⟩:=hb;have hb':=cont_iff.1 hb1;have hc':=cont_iff.1 hc1;have hd':=cont_iff.1 hd1;have e:r4 a b c d=(((a.toNat:Int) % 8*64+(b.toNat:Int) % 64)*64+(c.toNat:Int) % 64)*64+(d.toNat:Int) % 64:=rfl;refine⟨hr,by unfold wid;dsimp only;rw[if_neg (by omega),if_neg (by omega),if_neg (by omega)],?_⟩;unfold enc;dsimp only;rw[if_neg (by omega),if_neg (by omega),if_neg (by omega),YS (c:=a) (by omega),YS (c:=b) (by omega),YS (c:=c) (by omega),YS (c:=d) (by omega)];rfl
    ·rw[if_neg hb] at h;exact absurd rfl h
  rw[if_neg h5] at h;exact absurd rfl h
end U
end
section
inductive RU (α:Type) where
 | p (r:α)
 | k
 | d
def rap {α:Type}:List (RU α)→List α→List α
 | .p r :: X,R=>r :: rap X R
 | .k :: X,r :: R=>r :: rap X R
 | .d :: X,_ :: R=>rap X R
 | _,_=>[]
def Qd {α:Type}:List (RU α)→Nat
 | []=>0
 | .p _ :: X=>Qd X
 | .k :: X=>Qd X+1
 | .d :: X=>Qd X+1
def Ql {α:Type}:List (RU α)→Nat
 | []=>0
 | .p _ :: X=>Ql X+1
 | .k :: X=>Ql X+1
 | .d :: X=>Ql X
theorem Jk {α:Type}{X:List (RU α)}{R:List α}(h:Qd X=R.length):(rap X R).length=Ql X:=by
 induction X generalizing R with
 | nil=>simp[rap,Ql]
 | cons x X ih =>
  cases x with
  | p r=>simp[rap,Ql,ih (R:=R) h]
  | k=>cases R with
   | nil=>simp[Qd] at h
   | cons r R=>simp[rap,Ql,ih (R:=R) (by simpa [Qd] using h)]
  | d=>cases R with
   | nil=>simp[Qd] at h
   | cons r R=>simp[rap,Ql,ih (R:=R) (by simpa [Qd] using h)]
def rtr {α:Type}(first:Bool):List (RU α)→List (RU α)→List (RU α)
 | .p r :: X,.p s :: Y=>if first=true then .p r :: rtr first X (.p s :: Y) else .k :: rtr first (.p r :: X) Y
 | .p r :: X,.k :: Y=>.p r :: rtr first X (.k :: Y)
 | .p r :: X,.d :: Y=>.p r :: rtr first X (.d :: Y)
 | .p r :: X,[]=>.p r :: rtr first X []
 | .k :: X,.p _ :: Y=>.k :: rtr first (.k :: X) Y
 | .d :: X,.p _ :: Y=>.k :: rtr first (.d :: X) Y
 | [],.p _ :: Y=>.k :: rtr first [] Y
 | .k :: X,.k :: Y=>.k :: rtr first X Y
 | .d :: X,.k :: Y=>.d :: rtr first X Y
 | .k :: X,.d :: Y=>rtr first X Y
 | .d :: X,.d :: Y=>rtr first X Y
 | .k :: _,[]=>[]
 | .d :: _,[]=>[]
 | [],.k :: _=>[]
 | [],.d :: _=>[]
 | [],[]=>[]
termination_by X Y=>X.length+Y.length
def rcm {α:Type}:List (RU α)→List (RU α)→List (RU α)
 | .d :: X,Y=>.d :: rcm X Y
 | .p r :: X,.p s :: Y=>.p s :: rcm (.p r :: X) Y
 | .k :: X,.p s :: Y=>.p s :: rcm (.k :: X) Y
 | [],.p s :: Y=>.p s :: rcm [] Y
 | .p r :: X,.k :: Y=>.p r :: rcm X Y
 | .p _ :: X,.d :: Y=>rcm X Y
 | .k :: X,.k :: Y=>.k :: rcm X Y
 | .k :: X,.d :: Y=>.d :: rcm X Y
 | .p _ :: _,[]=>[]
 | .k :: _,[]=>[]
 | [],.k :: _=>[]
 | [],.d :: _=>[]
 | [],[]=>[]
termination_by X Y=>X.length+Y.length
theorem Qfz {α:Type}{first:Bool}{X Y:List (RU α)}{R:List α}(hx:Qd X=R.length)(hy:Qd Y=R.length) :
  rap (rtr first X Y) (rap Y R)=rap (rtr (!first) Y X) (rap X R)∧Qd (rtr first X Y)=Ql Y∧Qd (rtr (!first) Y X)=Ql X:=by
 generalize hm:X.length+Y.length=m
 induction m using Nat.strongRecOn generalizing X Y R with
 | _ m ih =>
  have step:∀ (X' Y':List (RU α)) (R':List α),X'.length+Y'.length<m→Qd X'=R'.length→Qd Y'=R'.length →
   rap (rtr first X' Y') (rap Y' R')=rap (rtr (!first) Y' X') (rap X' R')∧Qd (rtr first X' Y')=Ql Y'∧Qd (rtr (!first) Y' X')=Ql X':=fun X' Y' R' h1 h2 h3=>ih _ h1 h2 h3 rfl
  clear ih
  match X,Y,R with
  | [],[],R=>cases first<;>simp[rtr,rap,Qd,Ql]
  | .p r :: X,[],R =>
   have:=step X [] R (by simp at hm ⊢;omega) hx hy
   cases first<;>simp_all [rtr,rap,Qd,Ql]
  | [],.p r :: Y,R =>
   have:=step [] Y R (by simp at hm ⊢;omega) hx hy
   cases first<;>simp_all [rtr,rap,Qd,Ql]
  | .k :: X,[],R=>simp[Qd] at hx hy;omega
  | .d :: X,[],R=>simp[Qd] at hx hy;omega
  | [],.k :: X,R=>simp[Qd] at hx hy;omega
  | [],.d :: X,R=>simp[Qd] at hx hy;omega
  | .p r :: X,.p s :: Y,R =>
   cases first with
   | true =>
    have:=step X (.p s :: Y) R (by simp at hm ⊢;omega) hx hy
    simp_all [rtr,rap,Qd,Ql]
   | false =>
    have:=step (.p r :: X) Y R (by simp at hm ⊢;omega) hx hy
    simp_all [rtr,rap,Qd,Ql]
  | .p r :: X,.k :: Y,R =>
   have:=step X (.k :: Y) R (by simp at hm ⊢;omega) hx hy
   cases first<;>simp_all [rtr,rap,Qd,Ql]
  | .p r :: X,.d :: Y,R =>
   have:=step X (.d :: Y) R (by simp at hm ⊢;omega) hx hy
   cases first<;>simp_all [rtr,rap,Qd,Ql]
  | .k :: X,.p s :: Y,R =>
   have:=step (.k :: X) Y R (by simp at hm ⊢;omega) hx hy
   cases first<;>simp_all [rtr,rap,Qd,Ql]
  | .d :: X,.p s :: Y,R =>
   have:=step (.d :: X) Y R (by simp at hm ⊢;omega) hx hy
   cases first<;>simp_all [rtr,rap,Qd,Ql]
  | .k :: X,.k :: Y,[]=>simp[Qd] at hx
  | .k :: X,.d :: Y,[]=>simp[Qd] at hx
  | .d :: X,.k :: Y,[]=>simp[Qd] at hx
  | .d :: X,.d :: Y,[]=>simp[Qd] at hx
  | .k :: X,.k :: Y,r :: R =>
   have:=step X Y R (by simp at hm ⊢;omega) (by simpa [Qd] using hx) (by simpa [Qd] using hy)
   simp_all [rtr,rap,Qd,Ql]
  | .k :: X,.d :: Y,r :: R =>
   have:=step X Y R (by simp at hm ⊢;omega) (by simpa [Qd] using hx) (by simpa [Qd] using hy)
   simp_all [rtr,rap,Qd,Ql]
  | .d :: X,.k :: Y,r :: R =>
   have:=step X Y R (by simp at hm ⊢;omega) (by simpa [Qd] using hx) (by simpa [Qd] using hy)
   simp_all [rtr,rap,Qd,Ql]
  | .d :: X,.d :: Y,r :: R =>
   have:=step X Y R (by simp at hm ⊢;omega) (by simpa [Qd] using hx) (by simpa [Qd] using hy)
   simp_all [rtr,rap,Qd,Ql]
theorem Qf0 {α:Type}{X Y:List (RU α)}(h:Qd Y=Ql X):Qd (rcm X Y)=Qd X∧Ql (rcm X Y)=Ql Y:=by
 generalize hm:X.length+Y.length=m
 induction m using Nat.strongRecOn generalizing X Y with
 | _ m ih =>
  have step:∀ (X' Y':List (RU α)),X'.length+Y'.length<m→Qd Y'=Ql X'→Qd (rcm X' Y')=Qd X'∧Ql (rcm X' Y')=Ql Y':=fun X' Y' h1 h2=>ih _ h1 h2 rfl
  clear ih
  match X,Y with
  | .d :: X,Y=>have:=step X Y (by simp at hm ⊢;omega) h;simp_all [rcm,Qd,Ql]
  | .p r :: X,.p s :: Y=>have:=step (.p r :: X) Y (by simp at hm ⊢;omega) h;simp_all [rcm,Qd,Ql]
  | .k :: X,.p s :: Y=>have:=step (.k :: X) Y (by simp at hm ⊢;omega) h;simp_all [rcm,Qd,Ql]
  | [],.p s :: Y=>have:=step [] Y (by simp at hm ⊢;omega) h;simp_all [rcm,Qd,Ql]
  | .p r :: X,.k :: Y=>have:=step X Y (by simp at hm ⊢;omega) (by simpa [Qd,Ql] using h);simp_all [rcm,Qd,Ql]
  | .p r :: X,.d :: Y=>have:=step X Y (by simp at hm ⊢;omega) (by simpa [Qd,Ql] using h);simp_all [rcm,Qd,Ql]
  | .k :: X,.k :: Y=>have:=step X Y (by simp at hm ⊢;omega) (by simpa [Qd,Ql] using h);simp_all [rcm,Qd,Ql]
  | .k :: X,.d :: Y=>have:=step X Y (by simp at hm ⊢;omega) (by simpa [Qd,Ql] using h);simp_all [rcm,Qd,Ql]
  | .p r :: X,[]=>simp[Qd,Ql] at h
  | .k :: X,[]=>simp[Qd,Ql] at h
  | [],.k :: Y=>simp[Qd,Ql] at h
  | [],.d :: Y=>simp[Qd,Ql] at h
  | [],[]=>simp[rcm,Qd,Ql]
theorem Qnc {α:Type}{X Y:List (RU α)}{R:List α}(hx:Qd X=R.length)(hy:Qd Y=Ql X):rap (rcm X Y) R=rap Y (rap X R):=by
 generalize hm:X.length+Y.length=m
 induction m using Nat.strongRecOn generalizing X Y R with
 | _ m ih =>
  have step:∀ (X' Y':List (RU α)) (R':List α),X'.length+Y'.length<m→Qd X'=R'.length→Qd Y'=Ql X'→rap (rcm X' Y') R'=rap Y' (rap X' R'):=fun X' Y' R' h1 h2 h3=>ih _ h1 h2 h3 rfl
  clear ih
  match X,Y,R with
  | .d :: X,Y,r :: R=>have:=step X Y R (by simp at hm ⊢;omega) (by simpa [Qd] using hx) hy;simp_all [rcm,Qd,Ql,rap]
  | .p r :: X,.p s :: Y,R=>have:=step (.p r :: X) Y R (by simp at hm ⊢;omega) hx hy;simp_all [rcm,Qd,Ql,rap]
  | .k :: X,.p s :: Y,R=>have:=step (.k :: X) Y R (by simp at hm ⊢;omega) hx hy;simp_all [rcm,Qd,Ql,rap]
  | [],.p s :: Y,R=>have:=step [] Y R (by simp at hm ⊢;omega) hx hy;simp_all [rcm,Qd,Ql,rap]
  | .p r :: X,.k :: Y,R=>have:=step X Y R (by simp at hm ⊢;omega) hx (by simpa [Qd,Ql] using hy);simp_all [rcm,Qd,Ql,rap]
  | .p r :: X,.d :: Y,R=>have:=step X Y R (by simp at hm ⊢;omega) hx (by simpa [Qd,Ql] using hy);simp_all [rcm,Qd,Ql,rap]
  | .k :: X,.k :: Y,r :: R=>have:=step X Y R (by simp at hm ⊢;omega) (by simpa [Qd] using hx) (by simpa [Qd,Ql] using hy);simp_all [rcm,Qd,Ql,rap]
  | .k :: X,.d :: Y,r :: R=>have:=step X Y R (by simp at hm ⊢;omega) (by simpa [Qd] using hx) (by simpa [Qd,Ql] using hy);simp_all [rcm,Qd,Ql,rap]
  | .d :: X,Y,[]=>simp[Qd] at hx
  | .k :: X,.k :: Y,[]=>simp[Qd] at hx
  | .k :: X,.d :: Y,[]=>simp[Qd] at hx
  | .p r :: X,[],R=>simp[Qd,Ql] at hy
  | .k :: X,[],R=>simp[Qd,Ql] at hy
  | [],.k :: Y,R=>simp[Qd,Ql] at hy
  | [],.d :: Y,R=>simp[Qd,Ql] at hy
  | [],[],R=>simp[rcm,rap]
def rnm {α:Type}:Nat→List (RU α)→List (RU α)
 | n,.p r :: X=>.p r :: rnm n X
 | n,.d :: X=>rnm (n+1) X
 | n,.k :: X=>List.replicate n .d++.k :: rnm 0 X
 | n,[]=>List.replicate n .d
theorem Qf1 {α:Type}(n:Nat)(X:List (RU α))(R:List α):rap (List.replicate n .d++X) R=if n≤R.length then rap X (R.drop n) else []:=by
 induction n generalizing R with
 | zero=>simp
 | succ n ih =>
  rw[Wat,Wap]
  cases R with
  | nil=>simp[rap]
  | cons r R=>rw[rap,ih];simp
theorem Qf2 {α:Type}(X Y:List (RU α)):Qd (X++Y)=Qd X+Qd Y:=by
 induction X with
 | nil=>simp[Qd]
 | cons x X ih=>cases x<;>simp[Qd,ih]<;>omega
theorem Qnd {α:Type}(X Y:List (RU α)):Ql (X++Y)=Ql X+Ql Y:=by
 induction X with
 | nil=>simp[Ql]
 | cons x X ih=>cases x<;>simp[Ql,ih]<;>omega
theorem Qcc {α:Type}(n:Nat):Qd (List.replicate n (.d:RU α))=n:=by
 induction n with
 | zero=>rfl
 | succ n ih=>rw[Wat,Qd,ih]
theorem Qf3 {α:Type}(n:Nat):Ql (List.replicate n (.d:RU α))=0:=by
 induction n with
 | zero=>rfl
 | succ n ih=>rw[Wat,Ql,ih]
theorem Qf4 {α:Type}(n:Nat)(X:List (RU α)):Qd (rnm n X)=n+Qd X∧Ql (rnm n X)=Ql X:=by
 induction X generalizing n with
 | nil=>simp[rnm,Qcc,Qf3,Qd,Ql]
 | cons x X ih =>
  cases x with
  | p r=>have:=ih n;simp[rnm,Qd,Ql,this]
  | d=>have:=ih (n+1);simp[rnm,Qd,Ql,this];omega
  | k=>have:=ih 0;simp[rnm,Qd,Ql,this,Qf2,Qnd,Qcc,Qf3]
theorem Jl {α:Type}(n:Nat)(X:List (RU α))(R:List α)(h:n+Qd X≤R.length):rap (rnm n X) R=rap X (R.drop n):=by
 induction X generalizing n R with
 | nil=>rw[rnm];have:=Qf1 n [] R;rw[Wam] at this;rw[this];simp[rap]
 | cons x X ih =>
  cases x with
  | p r=>simp only[rnm,rap];rw[ih n R h]
  | d =>
   rw[Qd] at h;rw[rnm,ih (n+1) R (by omega),Wbl (show n<R.length by omega),rap]
  | k =>
   rw[Qd] at h;rw[rnm,Qf1,if_pos (by omega),Wbl (show n<R.length by omega),rap,rap,ih 0 (R.drop (n+1)) (by rw[War];omega),List.drop_zero]
def Zg {α β:Type}(f:α→β):List (RU α)→List (RU β)
 | []=>[]
 | .p r :: X=>.p (f r) :: Zg f X
 | .k :: X=>.k :: Zg f X
 | .d :: X=>.d :: Zg f X
def QX {α:Type}:List (RU α)→List Bool
 | []=>[]
 | .p _ :: X=>QX X
 | .k :: X=>true :: QX X
 | .d :: X=>false :: QX X
def rws {α:Type}(wt:α→Nat):List (RU α)→Nat
 | []=>0
 | .p r :: X=>wt r+rws wt X
 | .k :: X=>rws wt X
 | .d :: X=>rws wt X
theorem Qf5 {α:Type}(wt:α→Nat)(n:Nat)(X:List (RU α)):rws wt (rnm n X)=rws wt X:=by
 have ds:∀ (k:Nat) (Y:List (RU α)),rws wt (List.replicate k .d++Y)=rws wt Y:=by
  intro k Y
  induction k with
  | zero=>rfl
  | succ k ih=>rw[Wat,Wap,rws,ih]
 induction X generalizing n with
 | nil=>have:=ds n [];simp only[Wam] at this;simp only[rnm,this]
 | cons x X ih =>
  cases x with
  | p r=>simp[rnm,rws,ih]
  | k=>simp[rnm,rws,ih,ds]
  | d=>simp only[rnm,rws,ih]
theorem Qne {α:Type}(wt:α→Nat){first:Bool}{Z Y:List (RU α)}(h:Qd Z=Qd Y):QX (rtr first Z Y)=rap (Zg (fun _=>true) Y) (QX Z)∧rws wt (rtr first Z Y)=rws wt Z:=by
 generalize hm:Z.length+Y.length=m
 induction m using Nat.strongRecOn generalizing Z Y with
 | _ m ih =>
  have step:∀ (X' Y':List (RU α)),X'.length+Y'.length<m→Qd X'=Qd Y'→QX (rtr first X' Y')=rap (Zg (fun _=>true) Y') (QX X')∧rws wt (rtr first X' Y')=rws wt X':=fun X' Y' h1 h2=>ih _ h1 h2 rfl
  clear ih
  match Z,Y with
  | [],[]=>simp[rtr,QX,Zg,rap,rws]
  | .p r :: X,[]=>have:=step X [] (by simp at hm ⊢;omega) h;simp_all [rtr,QX,Zg,rap,rws]
  | [],.p r :: Y=>have:=step [] Y (by simp at hm ⊢;omega) h;simp_all [rtr,QX,Zg,rap,rws]
  | .k :: X,[]=>simp[Qd] at h
  | .d :: X,[]=>simp[Qd] at h
  | [],.k :: X=>simp[Qd] at h
  | [],.d :: X=>simp[Qd] at h
  | .p r :: X,.p s :: Y =>
   cases first with
   | true=>have:=step X (.p s :: Y) (by simp at hm ⊢;omega) h;simp_all [rtr,QX,Zg,rap,rws]
   | false=>have:=step (.p r :: X) Y (by simp at hm ⊢;omega) h;simp_all [rtr,QX,Zg,rap,rws]
  | .p r :: X,.k :: Y=>have:=step X (.k :: Y) (by simp at hm ⊢;omega) h;simp_all [rtr,QX,Zg,rws]
  | .p r :: X,.d :: Y=>have:=step X (.d :: Y) (by simp at hm ⊢;omega) h;simp_all [rtr,QX,Zg,rws]
  | .k :: X,.p s :: Y=>have:=step (.k :: X) Y (by simp at hm ⊢;omega) h;simp_all [rtr,QX,Zg,rap,rws]
  | .d :: X,.p s :: Y=>have:=step (.d :: X) Y (by simp at hm ⊢;omega) h;simp_all [rtr,QX,Zg,rap,rws]
  | .k :: X,.k :: Y=>have:=step X Y (by simp at hm ⊢;omega) (by simpa [Qd] using h);simp_all [rtr,QX,Zg,rap,rws]
  | .k :: X,.d :: Y=>have:=step X Y (by simp at hm ⊢;omega) (by simpa [Qd] using h);simp_all [rtr,QX,Zg,rap,rws]
  | .d :: X,.k :: Y=>have:=step X Y (by simp at hm ⊢;omega) (by simpa [Qd] using h);simp_all [rtr,QX,Zg,rap,rws]
  | .d :: X,.d :: Y=>have:=step X Y (by simp at hm ⊢;omega) (by simpa [Qd] using h);simp_all [rtr,QX,Zg,rap,rws]
end
section
open Go.RowKit
theorem Xn (a:Addr)(n:Nat):(a.add n).block=a.block:=by unfold Addr.add;split<;>rfl
theorem Qc8 (a:Addr)(i j:Nat):(a.add i).add j=a.add (i+j):=by
 unfold Addr.add
 by_cases hi:i=0<;>by_cases hj:j=0<;>simp[hi,hj,Nat.add_assoc]
theorem Qh2 (a:Addr)(k:Nat):a.add (k+1)=⟨a.block,a.off+(k+1),none⟩:=by simp[Addr.add]
def Sl (w:World)(size:Nat)(v:Value)(n:Nat)(xs:List Value):Prop :=
 ∃ A c,v=.slice A n c∧xs.length=n*size∧n≤c∧c≤maxLen∧(A=none→c=0)∧(0<n→∃ ad,A=some ad∧ad.block<w.heap.size∧∀ j u,xs[j]?=some u→w.cell? (ad.add j)=some u)
section
variable {w w':World}{size n:Nat}{v:Value}{xs:List Value}
theorem Sl.len (h:Sl w size v n xs):xs.length=n*size:=by obtain⟨_,_,_,h,_⟩:=h;exact h
theorem Sl.le (h:Sl w size v n xs):n≤maxLen:=by obtain⟨_,c,_,_,h1,h2,_,_⟩:=h;omega
theorem Sl.below (h:Sl w size v n xs)(hb:Below w.heap.size w w'):Sl w' size v n xs:=by
 obtain⟨A,c,h1,h2,h3,h4,h4',h5⟩:=h;refine⟨A,c,h1,h2,h3,h4,h4',fun hn=>?_⟩;obtain⟨ad,e,hb1,hc⟩:=h5 hn
 exact⟨ad,e,Nat.lt_of_lt_of_le hb1 hb.size,fun j u hu=>(hb.cell (p:=ad.add j) (by rw[Xn];exact hb1)).trans (hc j u hu)⟩
theorem Sl.nil (w:World)(size:Nat):Sl w size (.slice none 0 0) 0 []:=⟨none,0,rfl,by simp,by omega,by unfold maxLen;omega,fun _=>rfl,fun h=>absurd h (by omega)⟩
theorem Sl.of_own {base:Nat}{e:TypeId}(h:w.ownsRow base e size v n xs):Sl w size v n xs:=by
 rcases h.2 with ⟨rfl,rfl⟩ | ⟨g,cap,cur,rfl,hb,hg,hn,hc,_⟩
 ·exact⟨none,0,rfl,h.1,by omega,by unfold maxLen;omega,fun _=>rfl,fun h=>absurd h (by omega)⟩
 ·refine⟨some ⟨g,0,none⟩,cap,rfl,h.1,hn,hc,(fun h=>nomatch h),fun _=>⟨⟨g,0,none⟩,rfl,(Array.getElem?_eq_some_iff.1 hg).1,h.cells rfl⟩⟩
theorem Sl.at_ (h:Sl w 1 v n xs){k:Nat}(hk:k<n):∃ ad c u,v=.slice (some ad) n c∧ad.block<w.heap.size∧xs[k]?=some u∧w.cell? (ad.add k)=some u:=by
 obtain⟨A,c,rfl,h2,_,_,_,h5⟩:=h;obtain⟨ad,rfl,hb,hc⟩:=h5 (by omega);have hl:k<xs.length:=by omega
 exact⟨ad,c,xs[k],rfl,hb,List.getElem?_eq_getElem hl,hc k _ (List.getElem?_eq_getElem hl)⟩
end
theorem Yz {a:Value}(ha:a.oneCell'=true):∀ u∈(#[a]:Array Value).toList,u.oneCell'=true:=by
 intro u hu;simp at hu;subst hu;exact ha
theorem Xo {a b:Value}(ha:a.oneCell'=true)(hb:b.oneCell'=true):∀ u∈(#[a,b]:Array Value).toList,u.oneCell'=true:=by
 intro u hu;simp at hu;rcases hu with rfl | rfl
 ·exact ha
 ·exact hb
theorem Q5 {a b c:Value}(ha:a.oneCell'=true)(hb:b.oneCell'=true)(hc:c.oneCell'=true):∀ u∈(#[a,b,c]:Array Value).toList,u.oneCell'=true:=by
 intro u hu;simp at hu;rcases hu with rfl | rfl | rfl
 ·exact ha
 ·exact hb
 ·exact hc
theorem one4 {a b c d:Value}(ha:a.oneCell'=true)(hb:b.oneCell'=true)(hc:c.oneCell'=true)(hd:d.oneCell'=true):∀ u∈(#[a,b,c,d]:Array Value).toList,u.oneCell'=true:=by
 intro u hu;simp at hu;rcases hu with rfl | rfl | rfl | rfl
 ·exact ha
 ·exact hb
 ·exact hc
 ·exact hd
structure El (P:Program)(t e:TypeId)(size bytes:Nat):Prop where
 ht:P.underlying t=some (.slice e)
 hi:∃ i z,P.info? e=some i∧i.zero=some z∧i.size=size∧i.bytes=bytes∧z.cells.size=size
 pos:0<size
theorem El.mk' {P:Program}{t e:TypeId}{size bytes:Nat}(ht:P.underlying t=some (.slice e))(h:(P.info? e).map (fun i=>(i.zero.map fun z=>z.cells.size,i.size,i.bytes))=some (some size,size,bytes))(hp:0<size):El P t e size bytes:=by
 refine⟨ht,?_,hp⟩
 cases hi:P.info? e with
 | none=>rw[hi] at h;simp at h
 | some i =>
  rw[hi] at h;simp only[Option.map_some,Option.some.injEq,Prod.mk.injEq] at h
  cases hz:i.zero with
  | none=>rw[hz] at h;simp at h
  | some z =>
   rw[hz] at h;simp only[Option.map_some,Option.some.injEq] at h
   exact⟨i,z,rfl,hz,h.2.1,h.2.2,h.1⟩
section
variable {P:Program}{ops:Array Oper}{Q:Exit→Act→World→Prop}{a:Act}{W:World}{rest:List Oper}{o:Oper}{s x:Operand}{t e:TypeId}{size bytes base n m:Nat}{v:Value}{xs:List Value}
theorem Z9 (E:El P t e size bytes)(cs:Array Value)(hown:W.ownsRow base e size v n xs)(hgd:o.guard=none)
  (ho:o.op=.call { callee:=.builtin .append,args:=#[s,x],argTypes:=#[t,t] }) (hs:a.eval s=v) (hx:a.eval x=.slice (some ⟨W.heap.size,0,none⟩) m m)
  (hl:cs.size=m*size) (h1:∀ u∈cs.toList,u.oneCell'=true) (h63:n+m≤maxLen) (hbytes:(n+m)*bytes≤140737488355328) (hbase:base≤W.heap.size)
  (h:∀ v' w',w'.ownsRow base e size v' (n+m) (xs++cs.toList)→Below base W w'→W.grownBy w' v.ownBlock→wpList P ops Q rest (a.put o.dst v') w'):wpList P ops Q (o :: rest) a (W.alloc (.cells cs e)):=by
 obtain⟨i,z,hi,hz,hsi,hby,hzs⟩:=E.hi;refine wpList_append_own _ hgd s x t ho base e i z size bytes E.ht hi hz hsi hby hzs E.pos v n xs hs (hown.alloc _) ⟨W.heap.size,0,none⟩ m m cs.toList hx (by simpa using hl) ?_ h1 h63 hbytes (by simp;omega) ?_
 ·intro j u hu
  have:(⟨W.heap.size,0,none⟩:Addr).add j=⟨W.heap.size,j,none⟩:=by unfold Addr.add;split<;>simp_all
  rw[this,World.cell?_alloc_new];simpa using hu
 ·intro v' w' ho' hg _;have hlt:=hown.lt;have hg':W.grownBy w' v.ownBlock:=⟨hg.os,hg.tape,hg.output,Nat.le_trans (by simp) hg.size,fun k hk hne=>(hg.block k (by simp;omega) hne).trans (Below.heap_alloc W _ k hk)⟩;refine h v' w' ho' ⟨hg'.os,hg'.tape,hg'.output,hg'.size,fun k hk=>?_⟩ hg';exact hg'.block k (by omega) (fun e=>by have:=hlt k e.symm;omega)
end
theorem XW {P:Program}{w:World}{v:Value}{n:Nat}{l:List UInt8}{src dst e:TypeId}(hs:P.underlying src=some (.slice e))(he:P.underlying e=some (.int .u8))(hd:P.underlying dst=some .string)
  (h:Sl w 1 v n (l.map fun c=>.int .u8 (c.toNat:Int))):(convert src dst v).run P w=.ok (.string ⟨l.toArray⟩) w:=by
 obtain⟨A,c,rfl,h2,_,_,h4,h5⟩:=h;have hn:n=l.length:=by simpa using h2.symm
 cases A with
 | none =>
  have hm:n=0:=by
   rcases Nat.eq_zero_or_pos n with h | h
   ·exact h
   ·obtain⟨ad,hh,_⟩:=h5 h
    cases hh
  have hl:l=[]:=List.eq_nil_of_length_eq_zero (by omega);subst hl;rw[run_convert_bytes_string w src dst e _ _ _ hs he hd];simp[Conv.bytesToString]
  rfl
 | some ad =>
  have hl:(loadCells ad n).run P w=.ok ((l.map fun c=>(c.toNat:Int)).map (Value.int .u8)).toArray w:=by
   have:=run_loadCells_list (P:=P) w ad (l.map fun c=>Value.int .u8 (c.toNat:Int)) (fun j u hu=>by
    have hj:j<(l.map fun c=>Value.int .u8 (c.toNat:Int)).length:=by
     rcases Nat.lt_or_ge j (l.map fun c=>Value.int .u8 (c.toNat:Int)).length with h | h
     ·exact h
     ·rw[List.getElem?_eq_none h] at hu;cases hu
    obtain⟨ad',e',_,hc⟩:=h5 (by simp at hj;omega)
    cases e'
    exact hc j u hu)
   rw[List.length_map,← hn] at this;rw[this,List.map_map];rfl
  rw[run_convert_bytes_string w src dst e _ _ _ hs he hd,run_bytesToString w ad n c _ hl,foldl_push_bytes]
  congr 2
  rw[List.map_map]
  have:(l.map ((fun n:Int=>UInt8.ofNat n.toNat) ∘ fun c:UInt8=>(c.toNat:Int)))=l:=by
   conv=>rhs;rw[← List.map_id l]
   apply List.map_congr_left
   intro c _;simp
  rw[this];simp
theorem J5 {P:Program}{l:List UInt8}{src dst e:TypeId}(hs:P.underlying src=some (.slice e))(he:P.underlying e=some (.int .u8))(hd:P.underlying dst=some .string)(w:World)(cs:Array Value)(n:Nat)
  (hcs:(l.map fun c=>Value.int .u8 (c.toNat:Int))=cs.toList) (hn:n=l.length) (hm:n≤maxLen) :
  (convert src dst (.slice (some ⟨w.heap.size,0,none⟩) n n)).run P (w.alloc (.cells cs e))=.ok (.string ⟨l.toArray⟩) (w.alloc (.cells cs e)):=by
 refine XW hs he hd ⟨some ⟨w.heap.size,0,none⟩,n,rfl,by simp[hn],Nat.le_refl _,hm,(fun h=>nomatch h),fun _=>⟨_,rfl,by simp,fun j u hu=>?_⟩⟩
 have:(⟨w.heap.size,0,none⟩:Addr).add j=⟨w.heap.size,j,none⟩:=by unfold Addr.add;split<;>simp_all
 rw[this,World.cell?_alloc_new,← Array.getElem?_toList,← hcs];exact hu
theorem Xp (a b:List UInt8):(ByteArray.mk a.toArray)++⟨b.toArray⟩=⟨(a++b).toArray⟩:=by
 apply ByteArray.ext
 simp[ByteArray.data_append]
def Blk (w:World)(g:Nat)(t:TypeId)(cs:Array Value):Prop:=w.heap[g]?=some (.cells cs t (0,0))
section
variable {w w':World}{g:Nat}{t:TypeId}{cs:Array Value}
theorem Blk.lt (h:Blk w g t cs):g<w.heap.size:=(Array.getElem?_eq_some_iff.1 h).1
theorem Blk.cell (h:Blk w g t cs)(i:Nat):w.cell? ⟨g,i,none⟩=cs[i]?:=cell_of_row w g i cs t (0,0) h
theorem Blk.frozen (h:Blk w g t cs)(i:Nat):w.frozen? ⟨g,i,none⟩=false:=by
 unfold Blk at h;simp[World.frozen?,h]
theorem Blk.new (w:World)(t:TypeId)(cs:Array Value):Blk (w.alloc (.cells cs t)) w.heap.size t cs:=heap_alloc_new w _
theorem Blk.alloc (h:Blk w g t cs)(o:Obj):Blk (w.alloc o) g t cs:=(Below.heap_alloc w o g h.lt).trans h
theorem Blk.set_ (h:Blk w g t cs)(i:Nat)(u:Value):Blk (w.setCell ⟨g,i,none⟩ u) g t (cs.setIfInBounds i u):=by
 unfold Blk at h ⊢;simp[World.setCell,Array.getElem?_modify,h]
theorem Blk.far (h:Blk w g t cs){p:Addr}(hp:g≠p.block)(u:Value):Blk (w.setCell p u) g t cs:=(Below.heap_setCell w p u g hp).trans h
theorem Blk.below {B:Nat}(h:Blk w g t cs)(hb:Below B w w')(hg:g<B):Blk w' g t cs:=(hb.block g hg).trans h
theorem Blk.set2 {F:World→Prop}{a b x y:Value}(h:Blk w g t #[a,b])
  (k:∀ w3,Blk w3 g t #[x,y]→(∀ B,B≤g→Below B w w3)→w3.heap.size=w.heap.size→(∀ g',g'≠g→w3.heap[g']?=w.heap[g']?)→F w3) :
  F ((w.setCell ⟨g,0,none⟩ x).setCell ⟨g,1,none⟩ y):=by
 refine k _ ((h.set_ 0 x).set_ 1 y) (fun B hB=>((Below.refl B w).setCell hB _).setCell hB _) (by simp) (fun g' hg=>?_);rw[Below.heap_setCell _ _ _ _ hg,Below.heap_setCell _ _ _ _ hg]
end
end
section
open Go.RowKit
theorem Qcg {w w':World}(h:Below w.drew.heap.size w.drew w'):Below w.heap.size w w':=⟨h.os,h.tape,h.output,h.size,h.block⟩
theorem Qb {w W w':World}(h:Below w.heap.size w W)(hb:Below W.heap.size W w'):Below w.heap.size w w':=h.trans (hb.mono h.size)
theorem Qa {w W:World}(h:Below w.heap.size w W)(o:Obj):Below w.heap.size w (W.alloc o):=h.alloc h.size o
theorem Qe {w W:World}(h:Below w.heap.size w W):Below w.heap.size w W.drew:=h.drew
theorem Qh {w W:World}(n:Nat)(h:Below w.heap.size w W):Below w.heap.size w (W.drewN n):=⟨h.os,h.tape,h.output,h.size,h.block⟩
def Old (N:Nat)(W w:World):Prop:=∀ b o,b<N→w.cell? ⟨b,o,none⟩=W.cell? ⟨b,o,none⟩
theorem Qny {N:Nat}{W w:World}(h:Below N W w):Old N W w:=fun b o hb=>h.cell (p:=⟨b,o,none⟩) hb
theorem Qnz {W w1:World}(hb:Below W.heap.size W w1):(∀ b o,b<W.heap.size→w1.cell? ⟨b,o,none⟩=W.cell? ⟨b,o,none⟩)∧(∀ b o,b<W.heap.size→w1.frozen? ⟨b,o,none⟩=W.frozen? ⟨b,o,none⟩) :=
 ⟨fun b o h=>hb.cell (p:=⟨b,o,none⟩) h,fun b o h=>hb.frozen (p:=⟨b,o,none⟩) h⟩
theorem YX {N:Nat}{W:World}(hN:N=W.heap.size):Below N W W.drew∧N≤W.drew.heap.size∧∀ b o,b<N→W.drew.cell? ⟨b,o,none⟩=W.cell? ⟨b,o,none⟩ :=
 ⟨(Below.refl _ _).drew,by simp[hN],fun _ _ _=>rfl⟩
theorem YY {N:Nat}{W w w':World}(h:Below N W w∧N≤w.heap.size∧∀ b o,b<N→w.cell? ⟨b,o,none⟩=W.cell? ⟨b,o,none⟩)(hb:Below w.heap.size w w') :
  Below N W w'∧N≤w'.heap.size∧∀ b o,b<N→w'.cell? ⟨b,o,none⟩=W.cell? ⟨b,o,none⟩:=by
 have h2:Below N W w':=h.1.trans (hb.mono h.2.1)
 exact⟨h2,Nat.le_trans h.2.1 hb.size,Qny h2⟩
end
section
namespace U
def encs (rs:List Int):Bs:=rs.flatMap enc
theorem encs_nil:encs []=[]:=rfl
theorem encs_cons (r:Int)(rs:List Int):encs (r :: rs)=enc r++encs rs:=by simp[encs]
theorem encs_append (a b:List Int):encs (a++b)=encs a++encs b:=by simp[encs]
def AllR (rs:List Int):Prop:=∀ r∈rs,right r=true
structure Sp (s:Bs)(rs:List Int)(rest:Bs):Prop where
 all:AllR rs
 eq:s=encs rs++rest
 bad:(next rest).2=0
theorem Qtf (s:Bs):next s=(0,0)∨(next s).2≠0:=by
 unfold next
 repeat' split
 all_goals first | exact .inl rfl | (right;simp;done)
theorem next_zero {s:Bs}(h:(next s).2=0):next s=(0,0):=(Qtf s).resolve_right (fun g=>g h)
theorem next_le (s:Bs):(next s).2≤s.length:=by
 by_cases h:(next s).2=0
 ·omega
 ·obtain⟨_,h2,h3⟩:=next_pos s h
  have:=congrArg List.length h3
  rw[Wad,enc_length,War] at this;omega
theorem sp_exists (s:Bs):∃ rs rest,Sp s rs rest:=by
 generalize hn:s.length=n
 induction n using Nat.strongRecOn generalizing s with
 | _ n ih =>
  by_cases h:(next s).2=0
  ·exact⟨[],s,fun r hr=>by simp at hr,rfl,h⟩
  ·obtain⟨h1,h2,h3⟩:=next_pos s h;have hl:=next_le s;obtain⟨rs,rest,g1,g2,g3⟩:=ih (s.drop (next s).2).length (by rw[War];omega) (s.drop (next s).2) rfl;refine⟨(next s).1 :: rs,rest,?_,?_,g3⟩
   ·intro r hr;rcases Wbk.1 hr with rfl | hr
    ·exact h1
    ·exact g1 r hr
   ·rw[encs_cons,Wah,← g2];exact h3
def off (rs:List Int)(k:Nat):Nat:=(encs (rs.take k)).length
theorem JG (rs:List Int):off rs 0=0:=rfl
theorem off_succ {rs:List Int}{k:Nat}(h:k<rs.length):off rs (k+1)=off rs k+wid rs[k]:=by
 unfold off;rw[Wag h,encs_append,Wad,encs_cons,encs_nil,Wam,enc_length]
theorem Qtg (rs:List Int)(k:Nat)(rest:Bs):(encs rs++rest).drop (off rs k)=encs (rs.drop k)++rest:=by
 have:encs rs++rest=encs (rs.take k)++(encs (rs.drop k)++rest):=by rw[← Wah,← encs_append,Wbh]
 rw[this];unfold off;rw[List.drop_left]
variable {s:Bs}{rs:List Int}{rest:Bs}
theorem Sp.drop (h:Sp s rs rest)(k:Nat):s.drop (off rs k)=encs (rs.drop k)++rest:=by rw[h.eq,Qtg]
theorem Sp.next_at (h:Sp s rs rest){k:Nat}(hk:k<rs.length):next (s.drop (off rs k))=(rs[k],wid rs[k]):=by
 rw[h.drop,Wbl hk,encs_cons,Wah];exact Qka (h.all _ (Wau hk)) _
theorem Sp.next_end (h:Sp s rs rest):next (s.drop (off rs rs.length))=(0,0):=by
 rw[h.drop,List.drop_length,encs_nil,Wbn];exact next_zero h.bad
theorem off_full (rs:List Int):off rs rs.length=(encs rs).length:=by unfold off;rw[Wbe]
theorem Sp.length (h:Sp s rs rest):s.length=off rs rs.length+rest.length:=by rw[h.eq,Wad,off_full]
theorem off_lt {k:Nat}(h:k<rs.length):off rs k<off rs rs.length:=by
 have e:off rs rs.length=off rs k+(encs (rs.drop k)).length:=by
  rw[off_full,off,← Wad,← encs_append,Wbh]
 rw[e,Wbl h,encs_cons,Wad,enc_length]
 have:=wid_pos rs[k]
 omega
theorem off_le {k:Nat}(h:k≤rs.length):off rs k≤off rs rs.length:=by
 rcases Nat.lt_or_ge k rs.length with h1 | h1
 ·exact Nat.le_of_lt (off_lt h1)
 ·rw[show k=rs.length from Nat.le_antisymm h h1];exact Wak _
theorem len_le_off (rs:List Int):rs.length≤off rs rs.length:=by
 induction rs with
 | nil=>simp
 | cons r rs ih =>
  rw[off_full] at ih ⊢;rw[encs_cons,Wad,enc_length,Wan]
  have:=wid_pos r
  omega
theorem Sp.unique {rs':List Int}{rest':Bs}(h:Sp s rs rest)(h':Sp s rs' rest'):rs=rs'∧rest=rest':=by
 induction rs generalizing s rs' with
 | nil =>
  cases rs' with
  | nil=>exact⟨rfl,by have:=h.eq.symm.trans h'.eq;simpa [encs] using this⟩
  | cons r rs' =>
   have h1:=h.next_end;have h2:=h'.next_at (k:=0) (by simp);rw[JG,List.drop_zero] at h2;simp[JG] at h1
   rw[h1] at h2
   have:=wid_pos r
   simp at h2;omega
 | cons r rs ih =>
  have h1:=h.next_at (k:=0) (by simp);rw[JG,List.drop_zero] at h1
  cases rs' with
  | nil =>
   have h2:=h'.next_end;simp[JG] at h2
   rw[h2] at h1
   have:=wid_pos r
   simp at h1;omega
  | cons r' rs' =>
   have h2:=h'.next_at (k:=0) (by simp);rw[JG,List.drop_zero,h1] at h2;simp only[List.getElem_cons_zero,Prod.mk.injEq] at h2;obtain⟨rfl,_⟩:=h2;have e:=h.eq.symm.trans h'.eq;rw[encs_cons,encs_cons,Wah,Wah] at e;have e2:=List.append_cancel_left e;obtain⟨g1,g2⟩:=ih (s:=encs rs++rest) ⟨fun x hx=>h.all x (List.mem_cons_of_mem _ hx),rfl,h.bad⟩ ⟨fun x hx=>h'.all x (List.mem_cons_of_mem _ hx),e2,h'.bad⟩
   exact⟨by rw[g1],g2⟩
theorem sp_encs {rs:List Int}(h:AllR rs):Sp (encs rs) rs []:=⟨h,by simp,rfl⟩
end U
end
section
namespace U
def hv (r:Int):List Int:=if r<65536 then [r] else [55296+(r-65536) / 1024,56320+(r-65536) % 1024]
def hvs (rs:List Int):List Int:=rs.flatMap hv
theorem hvs_nil:hvs []=[]:=rfl
theorem hvs_cons (r:Int)(rs:List Int):hvs (r :: rs)=hv r++hvs rs:=by simp[hvs]
theorem hvs_append (a b:List Int):hvs (a++b)=hvs a++hvs b:=by simp[hvs]
def hwid (r:Int):Nat:=if r<65536 then 1 else 2
theorem hv_length (r:Int):(hv r).length=hwid r:=by unfold hv hwid;split<;>rfl
theorem hwid_pos (r:Int):0<hwid r:=by unfold hwid;split<;>omega
theorem hwid_le (r:Int):hwid r≤2:=by unfold hwid;split<;>omega
theorem hvs_len_le (rs:List Int):(hvs rs).length≤2*rs.length:=by
 induction rs with
 | nil=>simp[hvs_nil]
 | cons r rs ih =>
  rw[hvs_cons,Wad,hv_length,Wan]
  have:=hwid_le r
  omega
theorem encs_le_hvs (rs:List Int):(encs rs).length≤4*(hvs rs).length:=by
 induction rs with
 | nil=>simp[hvs_nil,encs_nil]
 | cons r rs ih =>
  rw[hvs_cons,encs_cons,Wad,Wad,enc_length,hv_length]
  have:=wid_le r
  have:=hwid_pos r
  omega
def BadH (l:List Int):Prop:=match l with
 | []=>True
 | [a]=>55296≤a∧a<57344
 | a :: b :: _=>55296≤a∧a<57344∧(56320≤a∨b<56320∨57344≤b)
structure Hp (l pre rest:List Int):Prop where
 all:AllR pre
 eq:l=hvs pre++rest
 bad:BadH rest
def InH (l:List Int):Prop:=∀ a∈l,0≤a∧a<65536
def hoff (rs:List Int)(k:Nat):Nat:=(hvs (rs.take k)).length
theorem hoff_succ {rs:List Int}{k:Nat}(h:k<rs.length):hoff rs (k+1)=hoff rs k+hwid rs[k]:=by
 unfold hoff;rw[Wag h,hvs_append,Wad,hvs_cons,hvs_nil,Wam,hv_length]
theorem hoff_full (rs:List Int):hoff rs rs.length=(hvs rs).length:=by unfold hoff;rw[Wbe]
theorem Qfl (rs:List Int)(k:Nat)(rest:List Int):(hvs rs++rest).drop (hoff rs k)=hvs (rs.drop k)++rest:=by
 have:hvs rs++rest=hvs (rs.take k)++(hvs (rs.drop k)++rest):=by rw[← Wah,← hvs_append,Wbh]
 rw[this];unfold hoff;rw[List.drop_left]
theorem hoff_lt {rs:List Int}{k:Nat}(h:k<rs.length):hoff rs k<hoff rs rs.length:=by
 have e:hoff rs rs.length=hoff rs k+(hvs (rs.drop k)).length:=by
  rw[hoff_full,hoff,← Wad,← hvs_append,Wbh]
 rw[e,Wbl h,hvs_cons,Wad,hv_length]
 have:=hwid_pos rs[k]
 omega
theorem hoff_le {rs:List Int}{k:Nat}(h:k≤rs.length):hoff rs k≤hoff rs rs.length:=by
 rcases Nat.lt_or_ge k rs.length with h1 | h1
 ·exact Nat.le_of_lt (hoff_lt h1)
 ·rw[show k=rs.length from Nat.le_antisymm h h1];exact Wak _
theorem hvs_in {rs:List Int}(h:AllR rs):InH (hvs rs):=by
 induction rs with
 | nil=>intro a ha;simp[hvs_nil] at ha
 | cons r rs ih =>
  intro a ha;rw[hvs_cons,List.mem_append] at ha;rcases ha with ha | ha
  ·have hr:=right_iff.1 (h r List.mem_cons_self);unfold hv at ha
   split at ha
   ·simp at ha;omega
   ·simp at ha;omega
  ·exact ih (fun x hx=>h x (List.mem_cons_of_mem _ hx)) a ha
variable {l pre rest:List Int}
theorem Hp.length (h:Hp l pre rest):l.length=hoff pre pre.length+rest.length:=by rw[h.eq,Wad,hoff_full]
theorem Hp.at_ (h:Hp l pre rest){k:Nat}(hk:k<pre.length)(j:Nat)(hj:j<hwid pre[k]):l[hoff pre k+j]?=(hv pre[k])[j]?:=by
 have e:l.drop (hoff pre k)=hv pre[k]++(hvs (pre.drop (k+1))++rest):=by
  rw[h.eq,Qfl,Wbl hk,hvs_cons,Wah]
 have:=congrArg (fun x=>x[j]?) e
 simp only[List.getElem?_drop] at this;rw[this,List.getElem?_append_left (by rw[hv_length];exact hj)]
theorem Hp.end_ (h:Hp l pre rest)(j:Nat):l[hoff pre pre.length+j]?=rest[j]?:=by
 have e:l.drop (hoff pre pre.length)=rest:=by
  rw[h.eq,Qfl,List.drop_length,hvs_nil,Wbn]
 have:=congrArg (fun x=>x[j]?) e
 simpa only [List.getElem?_drop] using this
end U
end
section
open Go.RowKit
structure Only (S:Nat→Prop)(w w':World):Prop where
 os:w'.os=w.os
 tape:w'.tape=w.tape
 output:w'.output=w.output
 size:w.heap.size≤w'.heap.size
 block:∀ k,k<w.heap.size→¬ S k→w'.heap[k]?=w.heap[k]?
section
variable {S S':Nat→Prop}{a b c w w':World}
theorem Only.refl (S:Nat→Prop)(w:World):Only S w w:=⟨rfl,rfl,rfl,Nat.le_refl _,fun _ _ _=>rfl⟩
theorem Only.trans (h:Only S a b)(k:Only S b c):Only S a c :=
 ⟨k.os.trans h.os,k.tape.trans h.tape,k.output.trans h.output,Nat.le_trans h.size k.size,fun i hi hs=>(k.block i (Nat.lt_of_lt_of_le hi h.size) hs).trans (h.block i hi hs)⟩
theorem Only.mono (h:Only S a b)(hs:∀ k,k<a.heap.size→S k→S' k):Only S' a b :=
 ⟨h.os,h.tape,h.output,h.size,fun i hi hn=>h.block i hi (fun e=>hn (hs i hi e))⟩
theorem Only.step (h:Only S a b)(k:Only S' b c)(hs:∀ i,i<a.heap.size→S' i→S i):Only S a c :=
 ⟨k.os.trans h.os,k.tape.trans h.tape,k.output.trans h.output,Nat.le_trans h.size k.size,fun i hi hn=>(k.block i (Nat.lt_of_lt_of_le hi h.size) (fun e=>hn (hs i hi e))).trans (h.block i hi hn)⟩
theorem Only.alloc (h:Only S a b)(o:Obj):Only S a (b.alloc o) :=
 ⟨h.os,h.tape,h.output,by have:=h.size;simp;omega,fun i hi hn=>(Below.heap_alloc b o i (Nat.lt_of_lt_of_le hi h.size)).trans (h.block i hi hn)⟩
theorem Only.setCell (h:Only S a b){p:Addr}(hp:S p.block∨a.heap.size≤p.block)(u:Value):Only S a (b.setCell p u) :=
 ⟨h.os,h.tape,h.output,by have:=h.size;simp;omega,fun i hi hn=>(Below.heap_setCell b p u i (fun e=>by
  subst e;rcases hp with hp | hp
  ·exact hn hp
  ·omega)).trans (h.block i hi hn)⟩
theorem Only.drew (h:Only S a b):Only S a b.drew:=⟨h.os,h.tape,h.output,h.size,h.block⟩
theorem Only.drewN (n:Nat)(h:Only S a b):Only S a (b.drewN n):=⟨h.os,h.tape,h.output,h.size,h.block⟩
theorem Only.of_below (h:Below w.heap.size w w'):Only S w w':=⟨h.os,h.tape,h.output,h.size,fun i hi _=>h.block i hi⟩
theorem Only.then_below (h:Only S a b)(k:Below b.heap.size b c):Only S a c:=h.trans (Only.of_below k)
theorem Zzz {row:Option Nat}(h:w.grownBy w' row):Only (fun k=>some k=row) w w':=⟨h.os,h.tape,h.output,h.size,h.block⟩
theorem Only.below {B:Nat}(h:Only S w w')(hB:B≤w.heap.size)(hs:∀ k,k<B→¬ S k):Below B w w':=⟨h.os,h.tape,h.output,h.size,fun i hi=>h.block i (by omega) (hs i hi)⟩
end
section
variable {S:Nat→Prop}{w w':World}{g:Nat}{t:TypeId}{cs:Array Value}
theorem Blk.only (h:Blk w g t cs)(ho:Only S w w')(hg:¬ S g):Blk w' g t cs:=(ho.block g h.lt hg).trans h
theorem Qt {base:Nat}{e:TypeId}{size:Nat}{v:Value}{n:Nat}{xs:List Value}(h:w.ownsRow base e size v n xs)(ho:Only S w w')(hg:∀ k,v.ownBlock=some k→¬ S k):w'.ownsRow base e size v n xs:=by
 rcases h with ⟨h1,h | ⟨g,cap,cur,rfl,h3,hb,h4⟩⟩
 ·exact⟨h1,.inl h⟩
 ·exact⟨h1,.inr ⟨g,cap,cur,rfl,h3,(ho.block g (Array.getElem?_eq_some_iff.1 hb).1 (hg g rfl)).trans hb,h4⟩⟩
theorem Qg {base:Nat}{e:TypeId}{size:Nat}{v:Value}{n:Nat}{xs:List Value}(h:w.ownsRow base e size v n xs):∃ A c,v=.slice A n c:=by
 rcases h with ⟨h1,⟨rfl,rfl⟩ | ⟨g,cap,cur,rfl,_⟩⟩
 ·exact⟨none,0,rfl⟩
 ·exact⟨_,_,rfl⟩
theorem Qrt {base base':Nat}{e:TypeId}{size:Nat}{v:Value}{n:Nat}{xs:List Value}(h:w.ownsRow base e size v n xs)(hb:base'≤base):w.ownsRow base' e size v n xs:=by
 rcases h with ⟨h1,h | ⟨g,cap,cur,rfl,h3,hb',h4⟩⟩
 ·exact⟨h1,.inl h⟩
 ·exact⟨h1,.inr ⟨g,cap,cur,rfl,by omega,hb',h4⟩⟩
theorem Sl.only {size n:Nat}{v:Value}{xs:List Value}(h:Sl w size v n xs)(ho:Only S w w')(hg:∀ A:Addr,∀ c,v=.slice (some A) n c→0<n→¬ S A.block):Sl w' size v n xs:=by
 obtain⟨A,c,rfl,h2,h3,h4,h4',h5⟩:=h;refine⟨A,c,rfl,h2,h3,h4,h4',fun hn=>?_⟩;obtain⟨ad,rfl,hb1,hc⟩:=h5 hn;refine⟨ad,rfl,Nat.lt_of_lt_of_le hb1 ho.size,fun j u hu=>?_⟩;rw[← hc j u hu];exact World.cell?_of_block (by rw[Xn];exact ho.block _ hb1 (hg ad c rfl hn))
theorem Blk.put1 {x y:Value}(h:Blk w g t #[x]):Blk (w.setCell ⟨g,0,none⟩ y) g t #[y]:=h.set_ 0 y
end
section
variable {P:Program}{ops:Array Oper}{Q:Exit→Act→World→Prop}{a:Act}{W:World}{rest:List Oper}{o:Oper}{s x:Operand}{t e:TypeId}{size bytes base n m:Nat}{v:Value}{xs:List Value}
theorem Qx (E:El P t e size bytes)(cs:Array Value)(hown:W.ownsRow base e size v n xs)(hgd:o.guard=none)
  (ho:o.op=.call { callee:=.builtin .append,args:=#[s,x],argTypes:=#[t,t] }) (hs:a.eval s=v) {H:Nat} (hx:a.eval x=.slice (some ⟨H,0,none⟩) m m) (hH:W.heap.size=H)
  (hl:cs.size=m*size) (h1:∀ u∈cs.toList,u.oneCell'=true) (h63:n+m≤maxLen) (hbytes:(n+m)*bytes≤140737488355328) (hbase:base≤W.heap.size)
  (h:∀ v' w',w'.ownsRow base e size v' (n+m) (xs++cs.toList)→Below base W w'→W.grownBy w' v.ownBlock→(∀ k,v'.ownBlock=some k→v.ownBlock=some k∨W.heap.size≤k)→wpList P ops Q rest (a.put o.dst v') w'):wpList P ops Q (o :: rest) a (W.alloc (.cells cs e)):=by
 subst hH;obtain⟨i,z,hi,hz,hsi,hby,hzs⟩:=E.hi;refine wpList_append_own_at _ hgd s x t ho base e i z size bytes E.ht hi hz hsi hby hzs E.pos v n xs hs (hown.alloc _) ⟨W.heap.size,0,none⟩ m m cs.toList hx (by simpa using hl) ?_ h1 h63 hbytes (by simp;omega) ?_
 ·intro j u hu
  have:(⟨W.heap.size,0,none⟩:Addr).add j=⟨W.heap.size,j,none⟩:=by unfold Addr.add;split<;>simp_all
  rw[this,World.cell?_alloc_new];simpa using hu
 ·intro v' w' ho' hg _ hk;have hlt:=hown.lt;have hg':W.grownBy w' v.ownBlock:=⟨hg.os,hg.tape,hg.output,Nat.le_trans (by simp) hg.size,fun k hk hne=>(hg.block k (by simp;omega) hne).trans (Below.heap_alloc W _ k hk)⟩;refine h v' w' ho' ⟨hg'.os,hg'.tape,hg'.output,hg'.size,fun k hk=>?_⟩ hg' (fun k hk'=>?_)
  ·exact hg'.block k (by omega) (fun e=>by have:=hlt k e.symm;omega)
  ·rcases hk with hk | hk
   ·exact .inl (hk ▸ hk')
   ·rw[hk] at hk'
    have:=Option.some.inj hk'
    simp at this;exact .inr (by omega)
end
def Frs (B:Nat)(v:Value):Prop:=∀ ad n c,v=.slice (some ad) n c→B≤ad.block
theorem Frs.of_own {w:World}{base:Nat}{e:TypeId}{size n:Nat}{v:Value}{xs:List Value}(h:w.ownsRow base e size v n xs):Frs base v:=by
 intro ad m c e;subst e;rcases h.2 with ⟨h1,-⟩ | ⟨g,cap,cur,h1,hb,-⟩
 ·cases h1
 ·cases h1;exact hb
theorem Frs.mono {B B':Nat}{v:Value}(h:Frs B v)(hb:B'≤B):Frs B' v:=fun ad n c e=>Nat.le_trans hb (h ad n c e)
theorem Frs.nil (B:Nat):Frs B (.slice none 0 0):=fun ad n c e=>by cases e
theorem Sl.frs {w w':World}{S:Nat→Prop}{B n size:Nat}{v:Value}{xs:List Value}(h:Sl w size v n xs)(hf:Frs B v)(ho:Only S w w')(hs:∀ k,S k→k<B):Sl w' size v n xs :=
 h.only ho (fun A c e _ hA=>by have:=hf A n c e;have:=hs _ hA;omega)
def Qdr (B:Nat)(e:Ending):Prop:=∀ v,e=.returned v→Frs B v
def FrE (B:Nat)(e:Ending):Prop:=∀ v x,e=.returned (.tuple #[v,x])→Frs B v
theorem J9 {B:Nat}{v:Value}(h:Frs B v):Qdr B (.returned v):=fun v' e=>by cases e;exact h
theorem frE {B:Nat}{v x:Value}(h:Frs B v):FrE B (.returned (.tuple #[v,x])):=fun v' x' e=>by cases e;exact h
end
section
open Go.RowKit
section
variable {P:Program}{ops:Array Oper}{Q:Exit→Act→World→Prop}{K:Act→World→Prop}{F:Prop}{a:Act}{W:World}{o:Oper}{s x:Operand}{t e:TypeId}{size bytes base n m:Nat}{v:Value}{xs:List Value}
theorem Qqp (E:El P t e size bytes)(ty:TypeId)(ys:List Value)(u:Value)(hown:W.ownsRow base e size v n xs)(hsl:Sl W size u m ys)
  (h1:∀ u∈ys,u.oneCell'=true) (h63:n+m≤maxLen) (hbytes:(n+m)*bytes≤140737488355328) (hbase:base≤W.heap.size) :
  ∃ v' w',(Builtin.append_ #[t,t] ty #[v,u]).run P W=.ok v' w'∧w'.ownsRow base e size v' (n+m) (xs++ys)∧Below base W w'∧W.grownBy w' v.ownBlock∧(∀ k,v'.ownBlock=some k→v.ownBlock=some k∨W.heap.size≤k):=by
 obtain⟨i,z,hi,hz,hsi,hby,hzs⟩:=E.hi;have hlt:=hown.lt
 have bel:∀ w',W.grownBy w' v.ownBlock→Below base W w':=fun w' hg' =>
  ⟨hg'.os,hg'.tape,hg'.output,hg'.size,fun k hk=>hg'.block k (by omega) (fun e=>by have:=hlt k e.symm;omega)⟩
 obtain⟨A,c,rfl,hl,_,_,h4,h5⟩:=hsl
 cases A with
 | none =>
  have hm:m=0:=by
   rcases Nat.eq_zero_or_pos m with h | h
   ·exact h
   ·obtain⟨ad,hh,_⟩:=h5 h
    cases hh
  subst hm;obtain rfl:=h4 rfl;have hy:ys=[]:=List.eq_nil_of_length_eq_zero (by simpa using hl);subst hy;have hg:W.grownBy W v.ownBlock:=⟨rfl,rfl,rfl,Nat.le_refl _,fun _ _ _=>rfl⟩
  exact⟨v,W,run_append_owned_none (P:=P) (w:=W) base t ty e i size E.ht hi v n xs hown,by simpa using hown,bel _ hg,hg,fun k hk=>.inl hk⟩
 | some ad =>
  have hc:∀ j u,ys[j]?=some u→W.cell? (ad.add j)=some u:=by
   intro j u hu
   have hj:j<ys.length:=by
    rcases Nat.lt_or_ge j ys.length with h | h
    ·exact h
    ·rw[List.getElem?_eq_none h] at hu;cases hu
   have hm:0<m:=by
    rcases Nat.eq_zero_or_pos m with h | h
    ·subst h;simp at hl;subst hl;simp at hj
    ·exact h
   obtain⟨ad',e',_,hc⟩:=h5 hm
   cases e'
   exact hc j u hu
  obtain⟨v',w',hrun,h2,h3,_,hk⟩:=run_append_own_at (P:=P) W base t ty e i z size bytes E.ht hi hz hsi hby hzs E.pos v n xs hown ad m c ys hl hc h1 h63 hbytes hbase;refine⟨v',w',hrun,h2,bel _ h3,h3,fun k hk'=>?_⟩;rcases hk with hk | hk
  ·exact .inl (hk ▸ hk')
  ·rw[hk] at hk'
   have:=Option.some.inj hk'
   exact .inr (by omega)
theorem Zm (E:El P t e size bytes)(ys:List Value)(u:Value)(hown:W.ownsRow base e size v n xs)(hsl:Sl W size u m ys)(hgd:o.guard=none)
  (ho:o.op=.call { callee:=.builtin .append,args:=#[s,x],argTypes:=#[t,t] }) (hs:a.eval s=v) (hx:a.eval x=u)
  (h1:∀ u∈ys,u.oneCell'=true) (h63:n+m≤maxLen) (hbytes:(n+m)*bytes≤140737488355328) (hbase:base≤W.heap.size)
  (h:∀ v' w',w'.ownsRow base e size v' (n+m) (xs++ys)→Below base W w'→W.grownBy w' v.ownBlock→(∀ k,v'.ownBlock=some k→v.ownBlock=some k∨W.heap.size≤k)→K (a.put o.dst v') w') :
  if Region.wanted o (yielded ops a.tmps)=true then Oper.wp P o a W K Q else F:=by
 have hw:Region.wanted o (yielded ops a.tmps)=true:=by simp[Region.wanted,hgd]
 rw[if_pos hw];obtain⟨v',w',hrun,h2,h3,h4,h5⟩:=Qqp E o.type ys u hown hsl h1 h63 hbytes hbase;unfold Oper.wp;simp[execOp,ho,resolve,invoke,builtin,hs,hx,hrun,Result.andThen]
 exact h v' w' h2 h3 h4 h5
theorem Qqq (E:El P t e size bytes)(ty:TypeId)(hown:W.ownsRow base e size v n xs)(A:Option Addr)(c:Nat) :
  (Builtin.append_ #[t,t] ty #[v,.slice A 0 c]).run P W=.ok v W:=by
 obtain⟨i,z,hi,hz,hsi,hby,hzs⟩:=E.hi;have ht:=E.ht;rcases hown.2 with ⟨rfl,rfl⟩ | ⟨g,cap,cur,rfl,_,_,hnc,_⟩
 ·cases A<;>simp[Builtin.append_,run_underlying ht,sizeOf,typeInfo,hi,Builtin.lenOf,Builtin.firstCells,loadCells,loadCellsFrom,Result.andThen]
 ·cases A<;>simp[Builtin.append_,run_underlying ht,sizeOf,typeInfo,hi,Builtin.lenOf,Builtin.firstCells,loadCells,loadCellsFrom,Result.andThen,hnc,storeCells]
theorem Zx (E:El P t e size bytes)(hown:W.ownsRow base e size v n xs){A:Option Addr}{c:Nat}(hgd:o.guard=none)
  (ho:o.op=.call { callee:=.builtin .append,args:=#[s,x],argTypes:=#[t,t] }) (hs:a.eval s=v) (hx:a.eval x=.slice A 0 c)
  (h:K (a.put o.dst v) W) :
  if Region.wanted o (yielded ops a.tmps)=true then Oper.wp P o a W K Q else F:=by
 have hw:Region.wanted o (yielded ops a.tmps)=true:=by simp[Region.wanted,hgd]
 rw[if_pos hw];have hrun:=Qqq E o.type hown A c;unfold Oper.wp;simp[execOp,ho,resolve,invoke,builtin,hs,hx,hrun,Result.andThen]
 exact h
end
theorem Sl.part1 {w:World}{xs:List Value}{b o n c i m:Nat}(h:Sl w 1 (.slice (some ⟨b,o,none⟩) n c) n xs)(him:i+m≤n):Sl w 1 (.slice (some ⟨b,o+i,none⟩) m (c-i)) m ((xs.drop i).take m):=by
 obtain⟨A,c',hv,h2,h3,h4,h4',h5⟩:=h
 cases hv
 have hlm:((xs.drop i).take m).length=m*1:=by rw[List.length_take,List.length_drop];omega
 refine⟨_,_,rfl,hlm,by omega,by omega,(fun h=>nomatch h),fun hm=>?_⟩;obtain⟨ad,had,hb,hc⟩:=h5 (by omega)
 cases had
 refine⟨_,rfl,hb,fun j u hu=>?_⟩
 have hj:j<m:=by
  rcases Nat.lt_or_ge j m with h | h
  ·exact h
  ·rw[List.getElem?_eq_none (by omega)] at hu;cases hu
 have:=hc (i+j) u (by rw[List.getElem?_take_of_lt hj,List.getElem?_drop] at hu;exact hu)
 have am:∀ k,(⟨b,o,none⟩:Addr).add k=⟨b,o+k,none⟩:=fun k=>by cases k<;>rfl
 have am2:∀ k,(⟨b,o+i,none⟩:Addr).add k=⟨b,o+i+k,none⟩:=fun k=>by cases k<;>rfl
 rw[am] at this;rw[am2,Nat.add_assoc];exact this
theorem Sl.addr1 {w:World}{A:Option Addr}{n c:Nat}{xs:List Value}(h:Sl w 1 (.slice A n c) n xs)(hn:0<n):∃ b o,A=some ⟨b,o,none⟩:=by
 obtain⟨A',c',hv,h2,h3,h4,h4',h5⟩:=h
 cases hv
 obtain⟨ad,rfl,hb,hc⟩:=h5 hn;obtain⟨b,o,p⟩:=ad;have hl:0<xs.length:=by omega
 have hz:=hc 0 (xs[0]'hl) (List.getElem?_eq_getElem hl)
 have:(⟨b,o,p⟩:Addr).add 0=⟨b,o,p⟩:=by unfold Addr.add;rfl
 rw[this] at hz
 cases p with
 | none=>exact⟨b,o,rfl⟩
 | some x=>unfold World.cell? at hz;split at hz<;>simp at hz
end
section
open Go.ChangeShapes Go.WideShapes Go.ChangeAt Go.RowKit
open Go.ChangeMaps (open_string)
section
variable {H:Type}{enc:TypeId × Value→H}{P:Program}{w:World}{base:Nat}
theorem open_str {r:Reach}{b0:Nat}{t:TypeId}{v:Value}{d:DataW H}{ps:List MemPlace}{sp:Nat→Bool}{held:Bool}(ht:P.underlying t=some .string)(hval:Value.okWide P w r b0 t v)(hd:DataW.Trod enc P w base sp held t v d ps) :
  ∃ s:List UInt8,v=.string ⟨s.toArray⟩∧d=.lit (.string s)∧ps=[]∧s.length≤maxLen:=by
 obtain⟨s,rfl,rfl,rfl,h⟩:=open_string ht hval hd
 exact⟨s.data.toList,by rw[Array.toArray_toList],rfl,rfl,h⟩
theorem open_sl_ints {r:Reach}{b0:Nat}{t e:TypeId}{k:IntKind}{v:Value}{d:DataW H}{ps:List MemPlace}(ht:P.underlying t=some (.slice e))(he:P.underlying e=some (.int k))(hc:P.cellsOf e=1)
  (hval:Value.okWide P w r b0 t v) (hd:DataW.Trod enc P w base (fun _=>true) true t v d ps) :
  ∃ (n:Nat) (zs:List Int),Sl w 1 v n (zs.map (.int k))∧zs.length=n∧∀ z∈zs,(Lit.int k z).wf=true:=by
 obtain⟨a0,len,cap,rfl⟩:=okWide_slice ht hval;obtain⟨fuel,hf⟩:=hd;rcases open_ints ht he hc hf with ⟨hcs,hx⟩ | ⟨a,len',cap',zs,hcs,_,hl,hm,hz,hx,hcell,hwz⟩
 ·simp[Value.cells] at hcs
  obtain⟨rfl,rfl,rfl⟩:=hcs
  exact⟨0,[],Sl.nil w 1,rfl,fun z hz=>by simp at hz⟩
 ·simp[Value.cells] at hcs
  obtain⟨rfl,rfl,rfl⟩:=hcs;simp only[if_true] at hz;have hlen:(zs.take len).length=len:=by rw[List.length_take,hz];omega
  refine⟨len,zs.take len,⟨some a,cap,rfl,by rw[List.length_map,hlen,Nat.mul_one],hl,hm,(fun h=>nomatch h),fun hn=>⟨a,rfl,?_,?_⟩⟩,hlen,fun z hz'=>hwz z (List.mem_of_mem_take hz')⟩
  ·have:=World.block_lt_of_cell? w _ (hcell 0 (by omega))
   rw[Xn] at this;exact this
  ·intro j u hu;rw[List.getElem?_map] at hu
   have hj:j<len:=by
    rcases Nat.lt_or_ge j len with h | h
    ·exact h
    ·rw[List.getElem?_eq_none (by omega)] at hu;simp at hu
   rw[List.getElem?_take,if_pos hj,List.getElem?_eq_getElem (by omega)] at hu;simp only[Option.map_some,Option.some.injEq] at hu;subst hu
   have:=hcell j (by omega)
   rwa [List.getD_eq_getElem?_getD,List.getElem?_eq_getElem (by omega)] at this
end
end
section
open Go.RowKit
theorem Sl.from_ {w:World}{size n c k:Nat}{A:Option Addr}{xs:List Value}(h:Sl w size (.slice A n c) n xs)(hk:k≤n) :
  Sl w size (sliced A k n c size) (n-k) (xs.drop (k*size)):=by
 obtain⟨A',c',hv,h2,h3,h4,h4',h5⟩:=h
 cases hv
 have hl:(xs.drop (k*size)).length=(n-k)*size:=by rw[List.length_drop,h2,Nat.sub_mul]
 unfold sliced;refine⟨_,_,rfl,hl,by omega,by omega,fun e=>?_,fun hn=>?_⟩
 ·split at e
  ·have:=h4' e;omega
  ·cases A with
   | none=>have:=h4' rfl;omega
   | some ad=>cases e
 ·obtain⟨ad,rfl,hb,hc⟩:=h5 (by omega);rw[if_neg (by omega)];refine⟨_,rfl,by rw[Xn];exact hb,fun j u hu=>?_⟩;rw[Qc8];exact hc _ u (by rw[List.getElem?_drop] at hu;exact hu)
theorem Qpx {A:Option Addr}{k n c size:Nat}{ad:Addr}{m c':Nat}(h:sliced A k n c size=.slice (some ad) m c'):∃ ad0,A=some ad0∧ad0.block=ad.block:=by
 unfold sliced at h
 split at h
 ·cases h;exact⟨ad,rfl,rfl⟩
 ·cases A with
  | none=>cases h
  | some a=>cases h;exact⟨a,rfl,(Xn _ _).symm⟩
section
variable {P:Program}{t e:TypeId}{size bytes:Nat}
theorem El.elem (E:El P t e size bytes):P.elem t=e:=by
 have:=E.ht
 unfold Program.elem;rw[this]
theorem El.sizeOf (E:El P t e size bytes)(w:World):(Go.sizeOf e).run P w=.ok size w:=by
 obtain⟨i,z,hi,hz,hsi,hby,hzs⟩:=E.hi;simp[Go.sizeOf,typeInfo,hi,hsi]
theorem Qhp (E:El P t e size bytes){A:Option Addr}{n c k:Nat}{w:World}(hk:k≤n) :
  (Instr.sliceAt t (.slice A n c) (some (.int .i64 (k:Int))) none none).run P w=.ok (sliced A k n c size) w:=by
 have ht:P.underlying t=some (.slice (P.elem t)):=by rw[E.elem];exact E.ht
 rw[run_sliceAt_slice w t _ _ _ _ ht,run_slice_l w t A n c ht .i64 (k:Int) (by omega) (by omega),E.elem,E.sizeOf];simp[Result.andThen]
variable {ops:Array Oper}{Q:Exit→Act→World→Prop}{a:Act}{W:World}{rest:List Oper}{o:Oper}{s lo:Operand}{n k:Nat}{v:Value}{xs:List Value}
theorem Qcy (E:El P t e size bytes)(hg:o.guard=none)(hop:o.op=Op.slice t s (some lo) none none)(hs:a.eval s=v)(hlo:a.eval lo=.int .i64 (k:Int))(hsl:Sl W size v n xs)(hk:k≤n)
  (h:∀ A c,Sl W size (.slice A (n-k) c) (n-k) (xs.drop (k*size))→(∀ ad,A=some ad→∃ ad0 c0,v=.slice (some ad0) n c0∧ad0.block=ad.block)→wpList P ops Q rest (a.put o.dst (.slice A (n-k) c)) W) :
  wpList P ops Q (o :: rest) a W:=by
 obtain⟨A,c,rfl,-⟩:=id hsl;have h1:=hsl.from_ hk
 have h2:∀ ad,(if c=k then A else A.map (·.add (k*size)))=some ad→∃ ad0 c0,Value.slice A n c=.slice (some ad0) n c0∧ad0.block=ad.block:=fun ad hA=>by
  obtain⟨ad0,rfl,hb⟩:=Qpx (A:=A) (k:=k) (n:=n) (c:=c) (size:=size) (ad:=ad) (m:=n-k) (c':=c-k) (by unfold sliced;rw[hA])
  exact⟨ad0,c,rfl,hb⟩
 have h3:=h _ _ h1 h2;refine wpList_plain hg fun K' hK'=>?_
 have hrun:=Qhp E (A:=A) (n:=n) (c:=c) (k:=k) (w:=W) hk;unfold Oper.wp;simp[execOp,hop,hs,hlo,hrun,Result.andThen]
 exact hK' _ _ h3
end
end
section
open Go.RowKit Go.Maps
def prD (a b:Int):DataW Unit:=.agg [.lit (.int .i64 a),.lit (.int .i64 b)]
def prR:Value→Option (DataW Unit × List MemPlace)
 | .agg ⟨[.int .i64 a,.int .i64 b]⟩=>some (prD a b,[])
 | _=>none
theorem Qi1 (a b:Int):prR (.agg #[.int .i64 a,.int .i64 b])=some (prD a b,[]):=rfl
theorem Qsv {v:Value}{z:DataW Unit × List MemPlace}(h:prR v=some z):∃ a b,v=.agg #[.int .i64 a,.int .i64 b]∧z=(prD a b,[]):=by
 unfold prR at h
 split at h
 ·exact⟨_,_,rfl,(Option.some.inj h).symm⟩
 ·cases h
def prV (o:Option (Int × Int)):Value:=.agg #[.int .i64 (o.getD (0,0)).1,.int .i64 (o.getD (0,0)).2]
def Mp (w:World)(b n:Nat)(M:Int→Option (Int × Int)):Prop :=
 ∃ D:DataW Unit,w.ownsMap prog 3 prR b n D∧∀ x,(Lit.int .i64 x).wf=true→Maps.has D (.int .i64 x)=(M x).isSome∧∀ z,D.atKey (.int .i64 x) z=((M x).map fun p=>prD p.1 p.2).getD z
theorem Qi2:Keyed prog 3:=int_keyed underlying3
theorem Qi3 {x:Int}(h:(Lit.int .i64 x).wf=true):keyOf prog 3 (.int .i64 x)=some (.int .i64 x):=keyOf_int_mk underlying3 h
section
variable {w w':World}{b n:Nat}{M:Int→Option (Int × Int)}
theorem Mp.lt (h:Mp w b n M):b<w.heap.size:=by obtain⟨D,h,-⟩:=h;exact h.lt
theorem Mp.same (h:Mp w b n M)(e:w'.heap[b]?=w.heap[b]?):Mp w' b n M:=by
 obtain⟨D,⟨es,clock,hb,r⟩,h2⟩:=h
 exact⟨D,⟨es,clock,e.trans hb,r⟩,h2⟩
theorem Mp.only {S:Nat→Prop}(h:Mp w b n M)(ho:Only S w w')(hb:¬ S b):Mp w' b n M:=h.same (ho.block b h.lt hb)
theorem Mp.below (h:Mp w b n M)(ho:Below w.heap.size w w'):Mp w' b n M:=h.same (ho.block b h.lt)
theorem Mp.new (w:World):Mp (w.alloc (.map #[] 0)) w.heap.size 0 (fun _=>none) :=
 ⟨.map [],World.ownsMap_made w _ _ _,fun _ _=>⟨rfl,fun _=>rfl⟩⟩
theorem Mp.cap (h:Mp w b n M):∃ es clock,w.heap[b]?=some (.map es clock):=by obtain⟨D,⟨es,clock,hb,-⟩,-⟩:=h;exact⟨es,clock,hb⟩
theorem Qsw {v:Value}{ps:List MemPlace}{o:Option (Int × Int)}(h:prR v=some ((o.map fun p=>prD p.1 p.2).getD (prD 0 0),ps)):v=prV o:=by
 obtain⟨a,c,rfl,hz⟩:=Qsv h;have hz:=congrArg Prod.fst hz;dsimp only at hz
 cases o with
 | none =>
  unfold prD at hz;simp at hz;obtain⟨rfl,rfl⟩:=hz
  rfl
 | some p =>
  unfold prD at hz;simp at hz;obtain⟨rfl,rfl⟩:=hz
  rfl
theorem Mp.look {t e:TypeId}(h:Mp w b n M)(ht:prog.underlying t=some (.map 3 e))(hz:(zeroValue e).run prog w=.ok (.agg #[.int .i64 0,.int .i64 0]) w){x:Int}(hx:(Lit.int .i64 x).wf=true) :
  (Instr.lookup t (.map (some b)) (.int .i64 x) true).run prog w=.ok (.tuple #[prV (M x),.bool (M x).isSome]) w:=by
 obtain⟨D,hD,hM⟩:=h;obtain⟨h1,h2⟩:=hM x hx;obtain⟨v,ps,hr,hv⟩:=hD.look_ok Qi2 ht hz (Qi1 0 0) (Qi3 hx);rw[h2] at hv;rw[hr,h1,Qsw hv]
def JC (M:Int→Option (Int × Int))(x:Int)(p:Int × Int):Int→Option (Int × Int):=fun y=>if y=x then some p else M y
theorem Mp.store {t e:TypeId}(h:Mp w b n M)(ht:prog.underlying t=some (.map 3 e))(hn:n<maxLen){x a c:Int}(hx:(Lit.int .i64 x).wf=true) :
  ∃ w',(Instr.mapUpdate t (.map (some b)) (.int .i64 x) (.agg #[.int .i64 a,.int .i64 c])).run prog w=.ok () w'∧Mp w' b (n+1) (JC M x (a,c))∧Only (fun k=>k=b) w w'∧w'.heap.size=w.heap.size:=by
 obtain⟨D,hD,hM⟩:=h;obtain⟨w',hr,h1,h2⟩:=hD.store Qi2 ht hn (Qi3 hx) (Qi1 a c);refine⟨w',hr,⟨_,h1,fun y hy=>?_⟩,?_,?_⟩
 ·obtain⟨m1,m2⟩:=hM y hy;unfold JC
  by_cases e:y=x
  ·subst e;rw[if_pos rfl]
   exact⟨has_put_same hD.isMap (by trivial) _,fun z=>atKey_put_same hD.isMap (by trivial) _ z⟩
  ·rw[if_neg e];have hne:Lit.int .i64 y≠Lit.int .i64 x:=fun h=>e (by simpa using h)
   exact⟨by rw[has_put_other hne,m1],fun z=>by rw[atKey_put_other hne,m2]⟩
 ·have hg:=h2.grown
  exact⟨hg.os,hg.tape,hg.output,hg.size,fun i hi hn=>hg.block i hi (fun e=>hn (Option.some.inj e))⟩
 ·obtain⟨es,clock,es',clock',hb,rfl⟩:=h2;simp[Go.ChangeMaps.setBlock]
variable {ops:Array Oper}{rest:List Oper}{o:Oper}{a:Act}{Q:Exit→Act→World→Prop}
theorem YL {m x:Operand}{t e:TypeId}{y:Int}(hg:o.guard=none)(hop:o.op=Op.lookup t m x true)(ht:prog.underlying t=some (.map 3 e))(hz:(zeroValue e).run prog w=.ok (.agg #[.int .i64 0,.int .i64 0]) w)
  (hm:a.eval m=.map (some b)) (hx:a.eval x=.int .i64 y) (hy:(Lit.int .i64 y).wf=true) (h:Mp w b n M) (hK:wpList prog ops Q rest (a.put o.dst (.tuple #[prV (M y),.bool (M y).isSome])) w) :
  wpList prog ops Q (o :: rest) a w:=by
 refine wpList_plain hg fun K' hK'=>?_
 have hrun:=h.look ht hz hy;unfold Oper.wp;simp[execOp,hop,hm,hx,hrun,Result.andThen]
 exact hK' _ _ hK
theorem Qi4 {m x v:Operand}{t e:TypeId}{y c d:Int}(hg:o.guard=none)(hop:o.op=Op.mapUpdate t m x v)(ht:prog.underlying t=some (.map 3 e))(hn:n<maxLen)
  (hm:a.eval m=.map (some b)) (hx:a.eval x=.int .i64 y) (hv:a.eval v=.agg #[.int .i64 c,.int .i64 d]) (hy:(Lit.int .i64 y).wf=true) (h:Mp w b n M)
  (hK:∀ w',Mp w' b (n+1) (JC M y (c,d))→Only (fun k=>k=b) w w'→w'.heap.size=w.heap.size→wpList prog ops Q rest (a.put o.dst undef) w') :
  wpList prog ops Q (o :: rest) a w:=by
 refine wpList_plain hg fun K' hK'=>?_
 obtain⟨w',hrun,h1,h2,h3⟩:=h.store (a:=c) (c:=d) ht hn hy;have hK2:=hK w' h1 h2 h3;clear hK h1 h2 h3 h;generalize Value.int .i64 y=key at hx hrun;generalize Value.agg #[.int .i64 c,.int .i64 d]=val at hv hrun;unfold Oper.wp;simp[execOp,hop,hm,hx,hv,hrun,Result.andThen]
 exact hK' _ _ hK2
end
end
section
section
open Go.Instr
variable {P:Program}
theorem Qck {K:TypeId}{k:IntKind}(hK:P.underlying K=some (.int k))(b:Bool)(n:Int)(w:World) :
  (checkKey b 10000 K (.int k n)).run P w=.ok () w:=by
 show (checkKey b (9999+1) K (.int k n)).run P w=.ok () w
 unfold checkKey;simp only[Sem.run_bind,run_underlying hK,Result.andThen]
 rfl
theorem Qcl {K:TypeId}{k:IntKind}(hK:P.underlying K=some (.int k))(n:Int)(es:List MapEntry)(r:Option (Nat × Value))(h:findNow (.int k) (.int k n) es 0=some r)(w:World) :
  (findKey K (.int k n) es).run P w=.ok r w:=by
 simp[findKey,run_underlying hK,Result.andThen,h]
theorem Qoc {α:Type}(a:Array α)(x y:α)(h:a.size<(a.push x).size):(a.push x).set a.size y h=a.push y:=by
 apply Array.ext
 ·simp
 ·intro i h1 h2;simp only[Array.getElem_set,Array.getElem_push]
  by_cases e:a.size=i
  ·subst e;simp
  ·have h3:i<a.size:=by simp at h2;omega
   simp[e,h3]
theorem Qcm {t K E:TypeId}{k:IntKind}(ht:P.underlying t=some (.map K E))(hK:P.underlying K=some (.int k))(w:World)(es:Array MapEntry)(c:Nat)(n:Int)(v:Value)
  (hn:findNow (.int k) (.int k n) es.toList 0=some none) :
  (mapUpdate t (.map (some w.heap.size)) (.int k n) v).run P (w.alloc (.map es c))=.ok () (w.alloc (.map (es.push { key:=.int k n,val:=v,born:=c }) (c+1))):=by
 have hb:(w.alloc (.map es c)).heap[w.heap.size]?=some (.map es c):=heap_alloc_new w _;simp[mapUpdate,run_underlying ht,MapKept.run_getObj_map hb,Qck hK,Qcl hK n es.toList none hn,MapKept.run_setObj_map _ hb,Result.andThen]
 have e:(w.alloc (.map es c)).heap.setIfInBounds w.heap.size (.map (es.push { key:=.int k n,val:=v,born:=c }) (c+1))=w.heap.push (.map (es.push { key:=.int k n,val:=v,born:=c }) (c+1)):=by
  show (w.heap.push (.map es c)).setIfInBounds w.heap.size _=_
  unfold Array.setIfInBounds;rw[dif_pos (by simp),Qoc]
 rw[e]
 rfl
theorem Qod {t K E:TypeId}{k:IntKind}(ht:P.underlying t=some (.map K E))(hK:P.underlying K=some (.int k))(w:World)(es:Array MapEntry)(c:Nat)(n:Int)(i:Nat)(v:Value)
  (hn:findNow (.int k) (.int k n) es.toList 0=some (some (i,v))) :
  (lookup t (.map (some w.heap.size)) (.int k n) false).run P (w.alloc (.map es c))=.ok v (w.alloc (.map es c)):=by
 have hb:(w.alloc (.map es c)).heap[w.heap.size]?=some (.map es c):=heap_alloc_new w _;simp[lookup,run_underlying ht,MapKept.run_getObj_map hb,Qck hK,Qcl hK n es.toList _ hn,Result.andThen]
theorem Qoe {t K E:TypeId}{k:IntKind}(ht:P.underlying t=some (.map K E))(hK:P.underlying K=some (.int k))(w:World)(es:Array MapEntry)(c:Nat)(n:Int)(z:Value)
  (hz:∀ w:World,(zeroValue E).run P w=.ok z w)
  (hn:findNow (.int k) (.int k n) es.toList 0=some none) :
  (lookup t (.map (some w.heap.size)) (.int k n) false).run P (w.alloc (.map es c))=.ok z (w.alloc (.map es c)):=by
 have hb:(w.alloc (.map es c)).heap[w.heap.size]?=some (.map es c):=heap_alloc_new w _;simp[lookup,run_underlying ht,MapKept.run_getObj_map hb,Qck hK,Qcl hK n es.toList _ hn,hz,Result.andThen]
end
end
section
open Go.ChangeShapes Go.WideShapes Go.ChangeAt Go.RowKit
section
variable {H:Type}{enc:TypeId × Value→H}{P:Program}
theorem Ql6 {f:Func}{s:ChangeSpec}{apart fresh handsOn again:Bool}{W W':World}{args:Array Value}{v:Value}{ds gs:List (DataW H)}{before pa pv:List MemPlace}
  (hW:DataW.Whole enc P f.params.toList s.vars apart W args.toList ds gs before)
  (hres:∀ (b:Nat) (sp:Nat→Bool) (hd:Bool),DataW.TrodAll enc P W' b sp hd f.resultTypes.toList (v.resultList f.resultTypes.size) (s.fn H (ds++gs)).results [])
  (hargs:∀ sp:Nat→Bool,(∀ p∈before,sp p.block=true)→DataW.TrodAll enc P W' 0 sp true f.params.toList args.toList (s.fn H (ds++gs)).args pa)
  (hvars:∀ sp:Nat→Bool,(∀ p∈before,sp p.block=true)→DataW.TrodVars enc P W' sp s.vars (s.fn H (ds++gs)).vars pv)
  (hps:before=pa++pv) (hb:Below W.heap.size W W')
  (hok:∀ (j:Nat) (t:TypeId) (r:Value),f.resultTypes[j]?=some t→(v.resultList f.resultTypes.size)[j]?=some r→Value.okWide P W' .any 0 t r) :
  s.post enc P f apart fresh handsOn again W args v W':=by
 have hlt:∀ p∈before,p.block<W.heap.size:=fun p hp=>hW.lt p hp
 have hold:∀ p∈before,(fun b=>decide (b<W.heap.size)) p.block=true:=fun p hp=>by simpa using hlt p hp
 refine⟨ds,gs,before,[],pa,pv,hW,hres _ _ _,hargs _ hold,hvars _ hold,World.keptBut_mono (fun p hp=>⟨hp,?_⟩) (hb.frame (·∈before)),fun _=>?_⟩
 ·rw[hps,List.mem_append] at hp;exact Or.inr hp
 ·obtain⟨_,_,_,_,_,hz,hn⟩:=hW;refine⟨hok,_,_,([]++pa)++pv,⟨[]++pa,pv,trodAll_append (hargs _ (fun _ _=>rfl)) (hres _ _ _),hvars _ (fun _ _=>rfl),rfl,?_,?_⟩,?_⟩
  ·intro b off hp;have hin:MemPlace.cell b off∈before:=by rw[hps];simpa using hp
   rw[hb.frozen (hlt _ hin)];exact hz b off hin
  ·intro ha
   have:=hn ha
   rw[hps] at this;simpa using this
  ·intro p hp _;rw[hps];simpa using hp
theorem Ql7 (hl:laidOutB P=true){ts:List TypeId}(hr:∀ t∈ts,P.readableRec t=true∧t<P.types.size){W W':World}(hb:Below W.heap.size W W'){sp':Nat→Bool}{vs:List Value}{ds:List (DataW H)}{ps:List MemPlace}
  (h:DataW.TrodAll enc P W 0 (fun _=>true) true ts vs ds ps) (hlt:∀ p∈ps,p.block<W.heap.size) (hs:∀ p∈ps,sp' p.block=true):DataW.TrodAll enc P W' 0 sp' true ts vs ds ps:=by
 induction ts generalizing vs ds ps with
 | nil =>
  obtain⟨rfl,rfl,rfl⟩:=trodAll_nil h;exact trodAll_mk0
 | cons t ts ih =>
  obtain⟨v,vs',d,ds',p,q,rfl,rfl,rfl,hd,hrest⟩:=trodAll_cons h;refine trodAll_cons_mk ?_ (ih (fun u hu=>hr u (List.mem_cons_of_mem _ hu)) hrest (fun x hx=>hlt x (List.mem_append_right _ hx)) (fun x hx=>hs x (List.mem_append_right _ hx)));obtain⟨h1,h2⟩:=hr t List.mem_cons_self;exact WideElems.Trod_stays hl h1 h2 hd (fun x hx=>hb.same (hlt x (List.mem_append_left _ hx))) (fun x hx=>hs x (List.mem_append_left _ hx))
theorem law_post {f:Func}{s:ChangeSpec}{apart fresh handsOn again:Bool}{W W':World}{args:Array Value}{ds:List (DataW H)}{before:List MemPlace}{tb:TypeId}
  (hl:laidOutB P=true) (hr:∀ t∈f.params.toList,P.readableRec t=true∧t<P.types.size) (hv:s.vars=[]) (hres:f.resultTypes=#[tb]) (hb1:P.underlying tb=some .bool)
  (hW:DataW.Whole enc P f.params.toList s.vars apart W args.toList ds [] before)
  (hs:s.fn H (ds++[])={ results:=[.lit (.bool true)],args:=ds }) (hb:Below W.heap.size W W') :
  s.post enc P f apart fresh handsOn again W args (.bool true) W':=by
 have hW0:=hW;obtain⟨p,q,hA,hV,hpq,hfz,hnd⟩:=hW0;rw[hv] at hV;obtain⟨_,rfl⟩:=trodVars_none hV;simp only[List.append_nil] at hpq;subst hpq;refine Ql6 (pa:=before) (pv:=[]) hW ?_ ?_ ?_ (by simp) hb ?_
 ·intro b sp hd;rw[hs,hres];exact trodAll_mk1 (shut_bool hb1 true)
 ·intro sp hsp;rw[hs];exact Ql7 hl hr hb hA (fun x hx=>hW.lt x hx) hsp
 ·intro sp hsp;rw[hs,hv]
  rfl
 ·exact ok_one hres rfl (okWide_bool_mk hb1 true)
end
end
end Go.Proofs.YtdgdajnbkfmijaaGreatDoor
