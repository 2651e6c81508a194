/- Texts of the proof. -/
import Derived.WalkKit
import Derived.Below
import Derived.Laws.AppendOwn
import Derived.Laws.OwnMore
import Derived.Deep.AppendLies
import Derived.OwnWalk
import Derived.Laws.AppendOwnNone
import Derived.Laws.BytesArg
import Derived.Deep.Draws
import Derived.OneCell
import Derived.Maps.AppendAt
import Derived.Deep.RegionLaw
import Derived.ProofKit
import Derived.OpenShut
import Derived.Test.YtckkgdmkfbkaoaaGreatDoorChecked
import Derived.Maps.OwnSet
import Derived.Maps.OwnOps
import Derived.Shelf.Strings.OnBuilder
import Derived.Shelf.Small.Wraps
import Derived.Shelf.Strconv.Itoa3
import Derived.Shelf.Strconv.AtoiAll
import Derived.Shelf.Strconv.ErrVarAll
import Derived.Shelf.Strings.Search3
import Derived.Shelf.Strings.Prefix
import Derived.Shelf.Strings.FieldsFuncGrows
import Derived.Carry
import Derived.Conc.HoldsTime
import Derived.Handed
import Derived.LaidLaws
import Derived.Test.YtckkgdmkfbkaoaaGreatDoorRows
import Derived.JoinedOf
namespace Go.Proofs.YtckkgdmkfbkaoaaGreatDoor
open Go.Proofs.Tryz
set_option maxRecDepth 100000
set_option maxHeartbeats 32000000
set_option linter.all false
section
structure Hd (p:Prop):Prop where
 out:p
section
open Go.RowKit
theorem Waa.{u_1}:∀ {α:Type u_1} {a:α} {l:List α},(a :: l)[0]?=some a:=@List.getElem?_cons_zero
theorem Wab.{u_1}:∀ {α:Type u_1} {xs:List α} {i:Nat},xs.toArray[i]?=xs[i]?:=@List.getElem?_toArray
theorem Wac:∀ (B:Nat) (w:World),Below B w w:=@Below.refl
theorem Wad.{u_1}:∀ {α:Type u_1} {xz bs:List α},(xz++bs).length=xz.length+bs.length:=@List.length_append
theorem Wae.{u_1}:∀ {α:Type u_1} {a:α} {i:Nat} {l:List α},(a :: l)[i+1]?=l[i]?:=@List.getElem?_cons_succ
theorem Waf.{u_1}:∀ {α:Type u_1} [BEq α] [LawfulBEq α] {a b:α},(a == b)=false↔a≠b:=@beq_eq_false_iff_ne
theorem Wag.{u_1}:∀ {α:Type u_1} {i:Nat} {l:List α} (h:i < l.length),List.take (i+1) l=List.take i l++[l[i]]:=@List.take_succ_eq_append_getElem
theorem Wah.{u_1}:∀ {α:Type u_1} (xz bs cs:List α),xz++bs++cs=xz++(bs++cs):=@List.append_assoc
theorem Wai.{u_1}:∀ {α:Type u_1} {i:Nat} {a:α} {l:List α},l[i]?=some a↔∃ h,l[i]=a:=@List.getElem?_eq_some_iff
theorem Waj.{u_1}:∀ {α:Type u_1} {l:List α} {i:Nat} (h:i < l.length),l[i]?=some l[i]:=@List.getElem?_eq_getElem
theorem Wak:∀ (n:Nat),n≤n:=@Nat.le_refl
theorem Wal:∀ {n m k:Nat},n < m→m≤k→n < k:=@Nat.lt_of_lt_of_le
theorem Wam.{u_1}:∀ {α:Type u_1} (xz:List α),xz++[]=xz:=@List.append_nil
theorem Wan.{u_1}:∀ {α:Type u_1} {a:α} {xz:List α},(a :: xz).length=xz.length+1:=@List.length_cons
theorem Wao:∀ {a b:Prop},a→b→a∧b:=@And.intro
theorem Wap.{u_1}:∀ {α:Type u_1} {a:α} {xz bs:List α},a :: xz++bs=a :: (xz++bs):=@List.cons_append
theorem Waq:∀ (w:World) (o:Obj),(w.alloc o).heap.size=w.heap.size+1:=@World.size_alloc
theorem War.{u_1}:∀ {α:Type u_1} {i:Nat} {l:List α},(List.drop i l).length=l.length-i:=@List.length_drop
theorem Was:∀ {a:Int},0≤a→∃ n:Nat,a=(n:Int):=@Int.eq_ofNat_of_zero_le
theorem Wat.{u_1}:∀ {α:Type u_1} {a:α} {n:Nat},List.replicate (n+1) a=a :: List.replicate n a:=@List.replicate_succ
theorem Wau.{u_1}:∀ {α:Type u_1} {l:List α} {n:Nat} (h:n < l.length),l[n]∈l:=@List.getElem_mem
theorem Wav.{u_1,u_2}:∀ {α:Type u_1} {β:Type u_2} {f:α→β} {l:List α} {i:Nat},(List.map f l)[i]?=Option.map f l[i]?:=@List.getElem?_map
theorem Waw:∀ (n:Int),IntKind.i64.wrap n=(n+9223372036854775808) % 18446744073709551616-9223372036854775808:=@IntKind.wrap_i64
theorem Wax.{u_1}:∀ {α:Type u_1} {l:List α},0 < l.length↔l≠[]:=@List.length_pos_iff
theorem Way.{u_1}:∀ {α:Type u_1} {l₁ l₂:List α} {i:Nat},l₁.length≤i→(l₁++l₂)[i]?=l₂[i-l₁.length]?:=@List.getElem?_append_right
theorem Waz:∀ {P:Program} {fn:Func} {R:Ending→World→Prop} {a:Act} {w:World} {v:Value},Sem.run P (results fn a.tmps) w=Result.ok v w→a.defers=[]→R (Ending.returned v) w→bodyPost P fn R Exit.ret a w:=@bodyPost_ret
theorem Wba:∀ (a:Int),a≤a:=@Int.le_refl
theorem Wbb.{u_1}:∀ {α:Type u_1} {i:Nat} {l:List α},(List.take i l).length=min i l.length:=@List.length_take
theorem Wbc:∀ (w:World) (o:Obj),(w.alloc o).heap[w.heap.size]?=some o:=@heap_alloc_new
theorem Wbd.{u_1}:∀ {α:Type u_1} {a b:α},a∈[b]↔a=b:=@List.mem_singleton
theorem Wbe.{u_1}:∀ {α:Type u_1} {l:List α},List.take l.length l=l:=@List.take_length
theorem Wbf:∀ {n m k:Nat},n≤m→m≤k→n≤k:=@Nat.le_trans
theorem Wbg.{u_1}:∀ {α:Type u_1} {val val_1:α},some val=some val_1→val=val_1:=@Option.some.inj
theorem Wbh.{u_1}:∀ {α:Type u_1} (i:Nat) (l:List α),List.take i l++List.drop i l=l:=@List.take_append_drop
theorem Wbi.{u_1,u_2}:∀ {α:Type u_1} {β:Type u_2} {xz:List α} (f:α→β),(List.map f xz).length=xz.length:=@List.length_map
theorem Wbj:∀ (w:World) (o:Obj) (a:Addr),a.block < w.heap.size→(w.alloc o).cell? a=w.cell? a:=@World.cell?_alloc_lt
theorem Wbk.{u_1}:∀ {α:Type u_1} {b:α} {l:List α} {a:α},a∈b :: l↔a=b ∨ a∈l:=@List.mem_cons
theorem Wbl.{u_1}:∀ {α:Type u_1} {i:Nat} {l:List α} (h:i < l.length),List.drop i l=l[i] :: List.drop (i+1) l:=@List.drop_eq_getElem_cons
theorem Wbm.{u_1}:∀ {α:Type u_1} {i:Nat} {b:α} {xs:Array α},xs[i]?=some b↔∃ h,xs[i]=b:=@Array.getElem?_eq_some_iff
theorem Wbn.{u_1}:∀ {α:Type u_1} (xz:List α),[]++xz=xz:=@List.nil_append
theorem Wbo.{u_1,u_2}:∀ {α:Type u_1} {β:Type u_2} {f:α→β} {l₁ l₂:List α},List.map f (l₁++l₂)=List.map f l₁++List.map f l₂:=@List.map_append
end
theorem Hd.o {p:Prop}(h:Hd p):p:=h.out
theorem Hm {p:Prop}(h:p):Hd p:=⟨h⟩
namespace U
abbrev Bs:=List UInt8
def by8 (n:Int):UInt8:=UInt8.ofNat n.toNat
def right (r:Int):Bool:=decide ((0≤r∧r<55296)∨(57344≤r∧r≤1114111))
theorem right_iff {r:Int}:right r=true↔(0≤r∧r<55296)∨(57344≤r∧r≤1114111):=by unfold right;simp only[decide_eq_true_eq]
def enc (r:Int):Bs :=
 if r<128 then [by8 r]
 else if r<2048 then [by8 (192+r / 64),by8 (128+r % 64)]
 else if r<65536 then [by8 (224+r / 4096),by8 (128+r / 64 % 64),by8 (128+r % 64)]
 else [by8 (240+r / 262144),by8 (128+r / 4096 % 64),by8 (128+r / 64 % 64),by8 (128+r % 64)]
def cont (c:UInt8):Bool:=decide (128≤c.toNat∧c.toNat<192)
theorem cont_iff {c:UInt8}:cont c=true↔128≤c.toNat∧c.toNat<192:=by unfold cont;simp only[decide_eq_true_eq]
def r2 (a b:UInt8):Int:=(a.toNat:Int) % 32*64+(b.toNat:Int) % 64
def r3 (a b c:UInt8):Int:=((a.toNat:Int) % 16*64+(b.toNat:Int) % 64)*64+(c.toNat:Int) % 64
def r4 (a b c d:UInt8):Int:=(((a.toNat:Int) % 8*64+(b.toNat:Int) % 64)*64+(c.toNat:Int) % 64)*64+(d.toNat:Int) % 64
def next:Bs→Int × Nat
 | []=>(0,0)
 | a :: t =>
  if a.toNat<128 then (a.toNat,1)
  else if a.toNat<194 then (0,0)
  else if a.toNat<224 then match t with
   | b :: _=>if cont b=true then (r2 a b,2) else (0,0)
   | _=>(0,0)
  else if a.toNat<240 then match t with
   | b :: c :: _=>if cont b=true∧cont c=true∧right (r3 a b c)=true∧2048≤r3 a b c then (r3 a b c,3) else (0,0)
   | _=>(0,0)
  else if a.toNat<245 then match t with
   | b :: c :: d :: _=>if cont b=true∧cont c=true∧cont d=true∧right (r4 a b c d)=true∧65536≤r4 a b c d then (r4 a b c d,4) else (0,0)
   | _=>(0,0)
  else (0,0)
def wid (r:Int):Nat:=if r<128 then 1 else if r<2048 then 2 else if r<65536 then 3 else 4
theorem enc_length (r:Int):(enc r).length=wid r:=by
 unfold enc wid;repeat' split
 all_goals rfl
theorem wid_pos (r : Int) : 0 < wid r := by unfold wid; repeat' split
                                            all_goals omega
theorem wid_le (r : Int) : wid r ≤ 4 := by unfold wid; repeat' split
                                           all_goals omega
theorem by8_toNat {n:Int}(h:0≤n)(h2:n<256):((by8 n).toNat:Int)=n:=by
 unfold by8;rw[UInt8.toNat_ofNat'];omega
theorem Qh7 (c:UInt8):by8 (c.toNat:Int)=c:=by
 unfold by8;rw[Int.toNat_natCast];exact UInt8.ofNat_toNat
theorem YZ {c:UInt8}{n:Int}(h:(c.toNat:Int)=n):by8 n=c:=by rw[← h];exact Qh7 c
theorem Qsz {r:Int}(h:right r=true)(t:Bs):next (enc r++t)=(r,wid r):=by
 have hr:=right_iff.1 h;unfold enc
 split
 ·rename_i h1
  have e:((by8 r).toNat:Int)=r:=by8_toNat (by omega) (by omega);simp only[List.cons_append,List.nil_append,next];rw[if_pos (by omega),e];unfold wid;rw[if_pos h1]
 ·rename_i h1
  split
  ·rename_i h2
   have e1:((by8 (192+r / 64)).toNat:Int)=192+r / 64:=by8_toNat (by omega) (by omega);have e2:((by8 (128+r % 64)).toNat:Int)=128+r % 64:=by8_toNat (by omega) (by omega);simp only[List.cons_append,List.nil_append,next];rw[if_neg (by omega),if_neg (by omega),if_pos (by omega),if_pos (cont_iff.2 (by omega))];unfold r2 wid;rw[e1,e2,if_neg h1,if_pos h2]
   congr 1;omega
  ·rename_i h2
   split
   ·rename_i h3
    have e1:((by8 (224+r / 4096)).toNat:Int)=224+r / 4096:=by8_toNat (by omega) (by omega);have e2:((by8 (128+r / 64 % 64)).toNat:Int)=128+r / 64 % 64:=by8_toNat (by omega) (by omega);have e3:((by8 (128+r % 64)).toNat:Int)=128+r % 64:=by8_toNat (by omega) (by omega)
    have er:r3 (by8 (224+r / 4096)) (by8 (128+r / 64 % 64)) (by8 (128+r % 64))=r:=by
     unfold r3;rw[e1,e2,e3];omega
    simp only[List.cons_append,List.nil_append,next];rw[if_neg (by omega),if_neg (by omega),if_neg (by omega),if_pos (by omega),er,if_pos ⟨cont_iff.2 (by omega),cont_iff.2 (by omega),h,by omega⟩];unfold wid;rw[if_neg h1,if_neg h2,if_pos h3]
   ·rename_i h3
    have e1:((by8 (240+r / 262144)).toNat:Int)=240+r / 262144:=by8_toNat (by omega) (by omega);have e2:((by8 (128+r / 4096 % 64)).toNat:Int)=128+r / 4096 % 64:=by8_toNat (by omega) (by omega);have e3:((by8 (128+r / 64 % 64)).toNat:Int)=128+r / 64 % 64:=by8_toNat (by omega) (by omega);have e4:((by8 (128+r % 64)).toNat:Int)=128+r % 64:=by8_toNat (by omega) (by omega)
    have er:r4 (by8 (240+r / 262144)) (by8 (128+r / 4096 % 64)) (by8 (128+r / 64 % 64)) (by8 (128+r % 64))=r:=by
     unfold r4;rw[e1,e2,e3,e4];omega
    simp only[List.cons_append,List.nil_append,next]
    rw[if_neg (by omega),if_neg (by omega),if_neg (by omega),if_neg (by omega),if_pos (by omega),er,
     if_pos ⟨cont_iff.2 (by omega),cont_iff.2 (by omega),cont_iff.2 (by omega),h,by omega⟩]
    unfold wid;rw[if_neg h1,if_neg h2,if_neg h3]
theorem Qh8 (s:Bs)(h:(next s).2≠0):right (next s).1=true∧(next s).2=wid (next s).1∧s=enc (next s).1++s.drop (next s).2:=by
 match s with
 | []=>simp[next] at h
 | a :: t =>
  simp only[next] at h ⊢
  by_cases h1:a.toNat<128
  ·rw[if_pos h1] at h ⊢;refine⟨right_iff.2 (by omega),by unfold wid;rw[if_pos (by omega)],?_⟩;unfold enc;rw[if_pos (by omega)];simp[Qh7]
  rw[if_neg h1] at h ⊢
  by_cases h2:a.toNat<194
  ·rw[if_pos h2] at h;exact absurd rfl h
  rw[if_neg h2] at h ⊢
  by_cases h3:a.toNat<224
  ·rw[if_pos h3] at h ⊢
   match t with
   | []=>exact absurd rfl h
   | b :: t =>
    dsimp only at h ⊢
    by_cases hb:cont b=true
    ·rw[if_pos hb] at h ⊢;have hb':=cont_iff.1 hb;have e:r2 a b=(a.toNat:Int) % 32*64+(b.toNat:Int) % 64:=rfl;refine⟨right_iff.2 (by dsimp only;omega),by unfold wid;dsimp only;rw[if_neg (by omega),if_pos (by omega)],?_⟩;unfold enc;dsimp only;rw[if_neg (by omega),if_pos (by omega),YZ (c:=a) (by omega),YZ (c:=b) (by omega)];rfl
    ·rw[if_neg hb] at h;exact absurd rfl h
  rw[if_neg h3] at h ⊢
  by_cases h4:a.toNat<240
  ·rw[if_pos h4] at h ⊢
   match t with
   | []=>exact absurd rfl h
   | [_]=>exact absurd rfl h
   | b :: c :: t =>
    dsimp only at h ⊢
    by_cases hb:cont b=true∧cont c=true∧right (r3 a b c)=true∧2048≤r3 a b c
    ·rw[if_pos hb] at h ⊢;obtain⟨hb1,hc1,hr,hlo⟩:=hb;have hb':=cont_iff.1 hb1;have hc':=cont_iff.1 hc1;have e:r3 a b c=((a.toNat:Int) % 16*64+(b.toNat:Int) % 64)*64+(c.toNat:Int) % 64:=rfl;refine⟨hr,by unfold wid;dsimp only;rw[if_neg (by omega),if_neg (by omega),if_pos (by omega)],?_⟩;unfold enc;dsimp only;rw[if_neg (by omega),if_neg (by omega),if_pos (by omega),YZ (c:=a) (by omega),YZ (c:=b) (by omega),YZ (c:=c) (by omega)];rfl
    ·rw[if_neg hb] at h;exact absurd rfl h
  rw[if_neg h4] at h ⊢
  by_cases h5:a.toNat<245
  ·rw[if_pos h5] at h ⊢
   match t with
   | []=>exact absurd rfl h
   | [_]=>exact absurd rfl h
   | [_,_]=>exact absurd rfl h
   | b :: c :: d :: t =>
    dsimp only at h ⊢
    by_cases hb:cont b=true∧cont c=true∧cont d=true∧right (r4 a b c d)=true∧65536≤r4 a b c d
    ·rw[if_pos hb] at h ⊢;obtain⟨hb1,hc1,hd1,hr,hlo⟩:=hb;have hb':=cont_iff.1 hb1;have hc':=cont_iff.1 hc1;have hd':=cont_iff.1 hd1;have e:r4 a b c d=(((a.toNat:Int) % 8*64+(b.toNat:Int) % 64)*64+(c.toNat:Int) % 64)*64+(d.toNat:Int) % 64:=rfl;refine⟨hr,by unfold wid;dsimp only;rw[if_neg (by omega),if_neg (by omega),if_neg (by omega)],?_⟩;unfold enc;dsimp only;rw[if_neg (by omega),if_neg (by omega),if_neg (by omega),YZ (c:=a) (by omega),YZ (c:=b) (by omega),YZ (c:=c) (by omega),YZ (c:=d) (by omega)];rfl
    ·rw[if_neg hb] at h;exact absurd rfl h
  rw[if_neg h5] at h;exact absurd rfl h
end U
end
section
namespace U
def encs (rs:List Int):Bs:=rs.flatMap enc
theorem encs_nil:encs []=[]:=rfl
theorem encs_cons (r:Int)(rs:List Int):encs (r :: rs)=enc r++encs rs:=by simp[encs]
theorem encs_append (a b:List Int):encs (a++b)=encs a++encs b:=by simp[encs]
def AllR (rs:List Int):Prop:=∀ r∈rs,right r=true
structure Sp (s:Bs)(rs:List Int)(rest:Bs):Prop where
 all:AllR rs
 eq:s=encs rs++rest
 bad:(next rest).2=0
theorem Qk9 (s:Bs):next s=(0,0)∨(next s).2≠0:=by
 unfold next
 repeat' split
 all_goals first | exact .inl rfl | (right;simp;done)
theorem Qla {s:Bs}(h:(next s).2=0):next s=(0,0):=(Qk9 s).resolve_right (fun g=>g h)
theorem Qlb (s:Bs):(next s).2≤s.length:=by
 by_cases h:(next s).2=0
 ·omega
 ·obtain⟨_,h2,h3⟩:=Qh8 s h
  have:=congrArg List.length h3
  rw[Wad,enc_length,War] at this;omega
theorem sp_exists (s:Bs):∃ rs rest,Sp s rs rest:=by
 generalize hn:s.length=n
 induction n using Nat.strongRecOn generalizing s with
 | _ n ih =>
  by_cases h:(next s).2=0
  ·exact⟨[],s,fun r hr=>by simp at hr,rfl,h⟩
  ·obtain⟨h1,h2,h3⟩:=Qh8 s h;have hl:=Qlb s;obtain⟨rs,rest,g1,g2,g3⟩:=ih (s.drop (next s).2).length (by rw[War];omega) (s.drop (next s).2) rfl;refine⟨(next s).1 :: rs,rest,?_,?_,g3⟩
   ·intro r hr;rcases Wbk.1 hr with rfl | hr
    ·exact h1
    ·exact g1 r hr
   ·rw[encs_cons,Wah,← g2];exact h3
def off (rs:List Int)(k:Nat):Nat:=(encs (rs.take k)).length
theorem Jh (rs:List Int):off rs 0=0:=rfl
theorem off_succ {rs:List Int}{k:Nat}(h:k<rs.length):off rs (k+1)=off rs k+wid rs[k]:=by
 unfold off;rw[Wag h,encs_append,Wad,encs_cons,encs_nil,Wam,enc_length]
theorem Qlc (rs:List Int)(k:Nat)(rest:Bs):(encs rs++rest).drop (off rs k)=encs (rs.drop k)++rest:=by
 have:encs rs++rest=encs (rs.take k)++(encs (rs.drop k)++rest):=by rw[← Wah,← encs_append,Wbh]
 rw[this];unfold off;rw[List.drop_left]
variable {s:Bs}{rs:List Int}{rest:Bs}
theorem Sp.drop (h:Sp s rs rest)(k:Nat):s.drop (off rs k)=encs (rs.drop k)++rest:=by rw[h.eq,Qlc]
theorem Sp.next_at (h:Sp s rs rest){k:Nat}(hk:k<rs.length):next (s.drop (off rs k))=(rs[k],wid rs[k]):=by
 rw[h.drop,Wbl hk,encs_cons,Wah];exact Qsz (h.all _ (Wau hk)) _
theorem Sp.next_end (h:Sp s rs rest):next (s.drop (off rs rs.length))=(0,0):=by
 rw[h.drop,List.drop_length,encs_nil,Wbn];exact Qla h.bad
theorem off_full (rs:List Int):off rs rs.length=(encs rs).length:=by unfold off;rw[Wbe]
theorem Sp.length (h:Sp s rs rest):s.length=off rs rs.length+rest.length:=by rw[h.eq,Wad,off_full]
theorem off_lt {k:Nat}(h:k<rs.length):off rs k<off rs rs.length:=by
 have e:off rs rs.length=off rs k+(encs (rs.drop k)).length:=by
  rw[off_full,off,← Wad,← encs_append,Wbh]
 rw[e,Wbl h,encs_cons,Wad,enc_length]
 have:=wid_pos rs[k]
 omega
theorem off_le {k:Nat}(h:k≤rs.length):off rs k≤off rs rs.length:=by
 rcases Nat.lt_or_ge k rs.length with h1 | h1
 ·exact Nat.le_of_lt (off_lt h1)
 ·rw[show k=rs.length from Nat.le_antisymm h h1];exact Wak _
theorem len_le_off (rs:List Int):rs.length≤off rs rs.length:=by
 induction rs with
 | nil=>simp
 | cons r rs ih =>
  rw[off_full] at ih ⊢;rw[encs_cons,Wad,enc_length,Wan]
  have:=wid_pos r
  omega
theorem Sp.unique {rs':List Int}{rest':Bs}(h:Sp s rs rest)(h':Sp s rs' rest'):rs=rs'∧rest=rest':=by
 induction rs generalizing s rs' with
 | nil =>
  cases rs' with
  | nil=>exact⟨rfl,by have:=h.eq.symm.trans h'.eq;simpa [encs] using this⟩
  | cons r rs' =>
   have h1:=h.next_end;have h2:=h'.next_at (k:=0) (by simp);rw[Jh,List.drop_zero] at h2;simp[Jh] at h1
   rw[h1] at h2
   have:=wid_pos r
   simp at h2;omega
 | cons r rs ih =>
  have h1:=h.next_at (k:=0) (by simp);rw[Jh,List.drop_zero] at h1
  cases rs' with
  | nil =>
   have h2:=h'.next_end;simp[Jh] at h2
   rw[h2] at h1
   have:=wid_pos r
   simp at h1;omega
  | cons r' rs' =>
   have h2:=h'.next_at (k:=0) (by simp);rw[Jh,List.drop_zero,h1] at h2;simp only[List.getElem_cons_zero,Prod.mk.injEq] at h2;obtain⟨rfl,_⟩:=h2;have e:=h.eq.symm.trans h'.eq;rw[encs_cons,encs_cons,Wah,Wah] at e;have e2:=List.append_cancel_left e;obtain⟨g1,g2⟩:=ih (s:=encs rs++rest) ⟨fun x hx=>h.all x (List.mem_cons_of_mem _ hx),rfl,h.bad⟩ ⟨fun x hx=>h'.all x (List.mem_cons_of_mem _ hx),e2,h'.bad⟩
   exact⟨by rw[g1],g2⟩
theorem sp_encs {rs:List Int}(h:AllR rs):Sp (encs rs) rs []:=⟨h,by simp,rfl⟩
end U
end
section
open Go.RowKit
theorem Qaz (a:Addr)(n:Nat):(a.add n).block=a.block:=by unfold Addr.add;split<;>rfl
theorem Qsl (a:Addr)(i j:Nat):(a.add i).add j=a.add (i+j):=by
 unfold Addr.add
 by_cases hi:i=0<;>by_cases hj:j=0<;>simp[hi,hj,Nat.add_assoc]
theorem Qhn (a:Addr)(k:Nat):a.add (k+1)=⟨a.block,a.off+(k+1),none⟩:=by simp[Addr.add]
def Sl (w:World)(size:Nat)(v:Value)(n:Nat)(xs:List Value):Prop :=
 ∃ A c,v=.slice A n c∧xs.length=n*size∧n≤c∧c≤maxLen∧(A=none→c=0)∧(0<n→∃ ad,A=some ad∧ad.block<w.heap.size∧∀ j u,xs[j]?=some u→w.cell? (ad.add j)=some u)
section
variable {w w':World}{size n:Nat}{v:Value}{xs:List Value}
theorem Sl.len (h:Sl w size v n xs):xs.length=n*size:=by obtain⟨_,_,_,h,_⟩:=h;exact h
theorem Sl.le (h:Sl w size v n xs):n≤maxLen:=by obtain⟨_,c,_,_,h1,h2,_,_⟩:=h;omega
theorem Sl.below (h:Sl w size v n xs)(hb:Below w.heap.size w w'):Sl w' size v n xs:=by
 obtain⟨A,c,h1,h2,h3,h4,h4',h5⟩:=h;refine⟨A,c,h1,h2,h3,h4,h4',fun hn=>?_⟩;obtain⟨ad,e,hb1,hc⟩:=h5 hn
 exact⟨ad,e,Nat.lt_of_lt_of_le hb1 hb.size,fun j u hu=>(hb.cell (p:=ad.add j) (by rw[Qaz];exact hb1)).trans (hc j u hu)⟩
theorem Sl.nil (w:World)(size:Nat):Sl w size (.slice none 0 0) 0 []:=⟨none,0,rfl,by simp,by omega,by unfold maxLen;omega,fun _=>rfl,fun h=>absurd h (by omega)⟩
theorem Sl.of_own {base:Nat}{e:TypeId}(h:w.ownsRow base e size v n xs):Sl w size v n xs:=by
 rcases h.2 with ⟨rfl,rfl⟩ | ⟨g,cap,cur,rfl,hb,hg,hn,hc,_⟩
 ·exact⟨none,0,rfl,h.1,by omega,by unfold maxLen;omega,fun _=>rfl,fun h=>absurd h (by omega)⟩
 ·refine⟨some ⟨g,0,none⟩,cap,rfl,h.1,hn,hc,(fun h=>nomatch h),fun _=>⟨⟨g,0,none⟩,rfl,(Array.getElem?_eq_some_iff.1 hg).1,h.cells rfl⟩⟩
theorem Sl.at_ (h:Sl w 1 v n xs){k:Nat}(hk:k<n):∃ ad c u,v=.slice (some ad) n c∧ad.block<w.heap.size∧xs[k]?=some u∧w.cell? (ad.add k)=some u:=by
 obtain⟨A,c,rfl,h2,_,_,_,h5⟩:=h;obtain⟨ad,rfl,hb,hc⟩:=h5 (by omega);have hl:k<xs.length:=by omega
 exact⟨ad,c,xs[k],rfl,hb,List.getElem?_eq_getElem hl,hc k _ (List.getElem?_eq_getElem hl)⟩
end
theorem YI {a:Value}(ha:a.oneCell'=true):∀ u∈(#[a]:Array Value).toList,u.oneCell'=true:=by
 intro u hu;simp at hu;subst hu;exact ha
theorem Qdf {a b:Value}(ha:a.oneCell'=true)(hb:b.oneCell'=true):∀ u∈(#[a,b]:Array Value).toList,u.oneCell'=true:=by
 intro u hu;simp at hu;rcases hu with rfl | rfl
 ·exact ha
 ·exact hb
theorem QP {a b c:Value}(ha:a.oneCell'=true)(hb:b.oneCell'=true)(hc:c.oneCell'=true):∀ u∈(#[a,b,c]:Array Value).toList,u.oneCell'=true:=by
 intro u hu;simp at hu;rcases hu with rfl | rfl | rfl
 ·exact ha
 ·exact hb
 ·exact hc
theorem one4 {a b c d:Value}(ha:a.oneCell'=true)(hb:b.oneCell'=true)(hc:c.oneCell'=true)(hd:d.oneCell'=true):∀ u∈(#[a,b,c,d]:Array Value).toList,u.oneCell'=true:=by
 intro u hu;simp at hu;rcases hu with rfl | rfl | rfl | rfl
 ·exact ha
 ·exact hb
 ·exact hc
 ·exact hd
structure El (P:Program)(t e:TypeId)(size bytes:Nat):Prop where
 ht:P.underlying t=some (.slice e)
 hi:∃ i z,P.info? e=some i∧i.zero=some z∧i.size=size∧i.bytes=bytes∧z.cells.size=size
 pos:0<size
theorem El.mk' {P:Program}{t e:TypeId}{size bytes:Nat}(ht:P.underlying t=some (.slice e))(h:(P.info? e).map (fun i=>(i.zero.map fun z=>z.cells.size,i.size,i.bytes))=some (some size,size,bytes))(hp:0<size):El P t e size bytes:=by
 refine⟨ht,?_,hp⟩
 cases hi:P.info? e with
 | none=>rw[hi] at h;simp at h
 | some i =>
  rw[hi] at h;simp only[Option.map_some,Option.some.injEq,Prod.mk.injEq] at h
  cases hz:i.zero with
  | none=>rw[hz] at h;simp at h
  | some z =>
   rw[hz] at h;simp only[Option.map_some,Option.some.injEq] at h
   exact⟨i,z,rfl,hz,h.2.1,h.2.2,h.1⟩
section
variable {P:Program}{ops:Array Oper}{Q:Exit→Act→World→Prop}{a:Act}{W:World}{rest:List Oper}{o:Oper}{s x:Operand}{t e:TypeId}{size bytes base n m:Nat}{v:Value}{xs:List Value}
theorem Yw (E:El P t e size bytes)(cs:Array Value)(hown:W.ownsRow base e size v n xs)(hgd:o.guard=none)
  (ho:o.op=.call { callee:=.builtin .append,args:=#[s,x],argTypes:=#[t,t] }) (hs:a.eval s=v) (hx:a.eval x=.slice (some ⟨W.heap.size,0,none⟩) m m)
  (hl:cs.size=m*size) (h1:∀ u∈cs.toList,u.oneCell'=true) (h63:n+m≤maxLen) (hbytes:(n+m)*bytes≤140737488355328) (hbase:base≤W.heap.size)
  (h:∀ v' w',w'.ownsRow base e size v' (n+m) (xs++cs.toList)→Below base W w'→W.grownBy w' v.ownBlock→wpList P ops Q rest (a.put o.dst v') w'):wpList P ops Q (o :: rest) a (W.alloc (.cells cs e)):=by
 obtain⟨i,z,hi,hz,hsi,hby,hzs⟩:=E.hi;refine wpList_append_own _ hgd s x t ho base e i z size bytes E.ht hi hz hsi hby hzs E.pos v n xs hs (hown.alloc _) ⟨W.heap.size,0,none⟩ m m cs.toList hx (by simpa using hl) ?_ h1 h63 hbytes (by simp;omega) ?_
 ·intro j u hu
  have:(⟨W.heap.size,0,none⟩:Addr).add j=⟨W.heap.size,j,none⟩:=by unfold Addr.add;split<;>simp_all
  rw[this,World.cell?_alloc_new];simpa using hu
 ·intro v' w' ho' hg _;have hlt:=hown.lt;have hg':W.grownBy w' v.ownBlock:=⟨hg.os,hg.tape,hg.output,Nat.le_trans (by simp) hg.size,fun k hk hne=>(hg.block k (by simp;omega) hne).trans (Below.heap_alloc W _ k hk)⟩;refine h v' w' ho' ⟨hg'.os,hg'.tape,hg'.output,hg'.size,fun k hk=>?_⟩ hg';exact hg'.block k (by omega) (fun e=>by have:=hlt k e.symm;omega)
theorem Qsm (E:El P t e size bytes)(ys:List Value)(u:Value)(hown:W.ownsRow base e size v n xs)(hsl:Sl W size u m ys)(hgd:o.guard=none)
  (ho:o.op=.call { callee:=.builtin .append,args:=#[s,x],argTypes:=#[t,t] }) (hs:a.eval s=v) (hx:a.eval x=u)
  (h1:∀ u∈ys,u.oneCell'=true) (h63:n+m≤maxLen) (hbytes:(n+m)*bytes≤140737488355328) (hbase:base≤W.heap.size)
  (h:∀ v' w',w'.ownsRow base e size v' (n+m) (xs++ys)→Below base W w'→W.grownBy w' v.ownBlock→wpList P ops Q rest (a.put o.dst v') w'):wpList P ops Q (o :: rest) a W:=by
 obtain⟨i,z,hi,hz,hsi,hby,hzs⟩:=E.hi;have hlt:=hown.lt
 have fin:∀ v' w',w'.ownsRow base e size v' (n+m) (xs++ys)→W.grownBy w' v.ownBlock→wpList P ops Q rest (a.put o.dst v') w':=fun v' w' ho' hg'=>by
  refine h v' w' ho' ⟨hg'.os,hg'.tape,hg'.output,hg'.size,fun k hk=>?_⟩ hg';exact hg'.block k (by omega) (fun e=>by have:=hlt k e.symm;omega)
 obtain⟨A,c,rfl,hl,_,_,h4,h5⟩:=hsl
 cases A with
 | none =>
  have hm:m=0:=by
   rcases Nat.eq_zero_or_pos m with h | h
   ·exact h
   ·obtain⟨ad,hh,_⟩:=h5 h
    cases hh
  subst hm;obtain rfl:=h4 rfl;have hy:ys=[]:=List.eq_nil_of_length_eq_zero (by simpa using hl);subst hy;refine wpList_append_own_none hgd s x t ho base e i size E.ht hi v n xs hs hown hx ?_;refine fin v W ?_ ⟨rfl,rfl,rfl,Nat.le_refl _,fun _ _ _=>rfl⟩;simpa using hown
 | some ad =>
  refine wpList_append_own _ hgd s x t ho base e i z size bytes E.ht hi hz hsi hby hzs E.pos v n xs hs hown ad m c ys hx hl ?_ h1 h63 hbytes hbase fun v' w' ho' hg' _=>fin v' w' ho' hg'
  intro j u hu
  have hj:j<ys.length:=by
   rcases Nat.lt_or_ge j ys.length with h | h
   ·exact h
   ·rw[List.getElem?_eq_none h] at hu;cases hu
  have hm:0<m:=by
   rcases Nat.eq_zero_or_pos m with h | h
   ·subst h;simp at hl;subst hl;simp at hj
   ·exact h
  obtain⟨ad',e',_,hc⟩:=h5 hm
  cases e'
  exact hc j u hu
end
theorem XW {P:Program}{w:World}{v:Value}{n:Nat}{l:List UInt8}{src dst e:TypeId}(hs:P.underlying src=some (.slice e))(he:P.underlying e=some (.int .u8))(hd:P.underlying dst=some .string)
  (h:Sl w 1 v n (l.map fun c=>.int .u8 (c.toNat:Int))):(convert src dst v).run P w=.ok (.string ⟨l.toArray⟩) w:=by
 obtain⟨A,c,rfl,h2,_,_,h4,h5⟩:=h;have hn:n=l.length:=by simpa using h2.symm
 cases A with
 | none =>
  have hm:n=0:=by
   rcases Nat.eq_zero_or_pos n with h | h
   ·exact h
   ·obtain⟨ad,hh,_⟩:=h5 h
    cases hh
  have hl:l=[]:=List.eq_nil_of_length_eq_zero (by omega);subst hl;rw[run_convert_bytes_string w src dst e _ _ _ hs he hd];simp[Conv.bytesToString]
  rfl
 | some ad =>
  have hl:(loadCells ad n).run P w=.ok ((l.map fun c=>(c.toNat:Int)).map (Value.int .u8)).toArray w:=by
   have:=run_loadCells_list (P:=P) w ad (l.map fun c=>Value.int .u8 (c.toNat:Int)) (fun j u hu=>by
    have hj:j<(l.map fun c=>Value.int .u8 (c.toNat:Int)).length:=by
     rcases Nat.lt_or_ge j (l.map fun c=>Value.int .u8 (c.toNat:Int)).length with h | h
     ·exact h
     ·rw[List.getElem?_eq_none h] at hu;cases hu
    obtain⟨ad',e',_,hc⟩:=h5 (by simp at hj;omega)
    cases e'
    exact hc j u hu)
   rw[List.length_map,← hn] at this;rw[this,List.map_map];rfl
  rw[run_convert_bytes_string w src dst e _ _ _ hs he hd,run_bytesToString w ad n c _ hl,foldl_push_bytes]
  congr 2
  rw[List.map_map]
  have:(l.map ((fun n:Int=>UInt8.ofNat n.toNat) ∘ fun c:UInt8=>(c.toNat:Int)))=l:=by
   conv=>rhs;rw[← List.map_id l]
   apply List.map_congr_left
   intro c _;simp
  rw[this];simp
theorem YY (a b:List UInt8):(ByteArray.mk a.toArray)++⟨b.toArray⟩=⟨(a++b).toArray⟩:=by
 apply ByteArray.ext
 simp[ByteArray.data_append]
def Blk (w:World)(g:Nat)(t:TypeId)(cs:Array Value):Prop:=w.heap[g]?=some (.cells cs t (0,0))
section
variable {w w':World}{g:Nat}{t:TypeId}{cs:Array Value}
theorem Blk.lt (h:Blk w g t cs):g<w.heap.size:=(Array.getElem?_eq_some_iff.1 h).1
theorem Blk.cell (h:Blk w g t cs)(i:Nat):w.cell? ⟨g,i,none⟩=cs[i]?:=cell_of_row w g i cs t (0,0) h
theorem Blk.frozen (h:Blk w g t cs)(i:Nat):w.frozen? ⟨g,i,none⟩=false:=by
 unfold Blk at h;simp[World.frozen?,h]
theorem Blk.new (w:World)(t:TypeId)(cs:Array Value):Blk (w.alloc (.cells cs t)) w.heap.size t cs:=heap_alloc_new w _
theorem Blk.alloc (h:Blk w g t cs)(o:Obj):Blk (w.alloc o) g t cs:=(Below.heap_alloc w o g h.lt).trans h
theorem Blk.set_ (h:Blk w g t cs)(i:Nat)(u:Value):Blk (w.setCell ⟨g,i,none⟩ u) g t (cs.setIfInBounds i u):=by
 unfold Blk at h ⊢;simp[World.setCell,Array.getElem?_modify,h]
theorem Blk.far (h:Blk w g t cs){p:Addr}(hp:g≠p.block)(u:Value):Blk (w.setCell p u) g t cs:=(Below.heap_setCell w p u g hp).trans h
theorem Blk.below {B:Nat}(h:Blk w g t cs)(hb:Below B w w')(hg:g<B):Blk w' g t cs:=(hb.block g hg).trans h
end
end
section
open Go.RowKit
theorem Qeb {w w':World}(h:Below w.drew.heap.size w.drew w'):Below w.heap.size w w':=⟨h.os,h.tape,h.output,h.size,h.block⟩
theorem Qa {w W w':World}(h:Below w.heap.size w W)(hb:Below W.heap.size W w'):Below w.heap.size w w':=h.trans (hb.mono h.size)
theorem Qb {w W:World}(h:Below w.heap.size w W)(o:Obj):Below w.heap.size w (W.alloc o):=h.alloc h.size o
theorem Qe {w W:World}(h:Below w.heap.size w W):Below w.heap.size w W.drew:=h.drew
theorem Qo {w W:World}(n:Nat)(h:Below w.heap.size w W):Below w.heap.size w (W.drewN n):=⟨h.os,h.tape,h.output,h.size,h.block⟩
end
section
open Go.RowKit
structure Only (S:Nat→Prop)(w w':World):Prop where
 os:w'.os=w.os
 tape:w'.tape=w.tape
 output:w'.output=w.output
 size:w.heap.size≤w'.heap.size
 block:∀ k,k<w.heap.size→¬ S k→w'.heap[k]?=w.heap[k]?
section
variable {S S':Nat→Prop}{a b c w w':World}
theorem Only.refl (S:Nat→Prop)(w:World):Only S w w:=⟨rfl,rfl,rfl,Nat.le_refl _,fun _ _ _=>rfl⟩
theorem Only.trans (h:Only S a b)(k:Only S b c):Only S a c :=
 ⟨k.os.trans h.os,k.tape.trans h.tape,k.output.trans h.output,Nat.le_trans h.size k.size,fun i hi hs=>(k.block i (Nat.lt_of_lt_of_le hi h.size) hs).trans (h.block i hi hs)⟩
theorem Only.mono (h:Only S a b)(hs:∀ k,k<a.heap.size→S k→S' k):Only S' a b :=
 ⟨h.os,h.tape,h.output,h.size,fun i hi hn=>h.block i hi (fun e=>hn (hs i hi e))⟩
theorem Only.step (h:Only S a b)(k:Only S' b c)(hs:∀ i,i<a.heap.size→S' i→S i):Only S a c :=
 ⟨k.os.trans h.os,k.tape.trans h.tape,k.output.trans h.output,Nat.le_trans h.size k.size,fun i hi hn=>(k.block i (Nat.lt_of_lt_of_le hi h.size) (fun e=>hn (hs i hi e))).trans (h.block i hi hn)⟩
theorem Only.alloc (h:Only S a b)(o:Obj):Only S a (b.alloc o) :=
 ⟨h.os,h.tape,h.output,by have:=h.size;simp;omega,fun i hi hn=>(Below.heap_alloc b o i (Nat.lt_of_lt_of_le hi h.size)).trans (h.block i hi hn)⟩
theorem Only.setCell (h:Only S a b){p:Addr}(hp:S p.block∨a.heap.size≤p.block)(u:Value):Only S a (b.setCell p u) :=
 ⟨h.os,h.tape,h.output,by have:=h.size;simp;omega,fun i hi hn=>(Below.heap_setCell b p u i (fun e=>by
  subst e;rcases hp with hp | hp
  ·exact hn hp
  ·omega)).trans (h.block i hi hn)⟩
theorem Only.drew (h:Only S a b):Only S a b.drew:=⟨h.os,h.tape,h.output,h.size,h.block⟩
theorem Only.drewN (n:Nat)(h:Only S a b):Only S a (b.drewN n):=⟨h.os,h.tape,h.output,h.size,h.block⟩
theorem Only.of_below (h:Below w.heap.size w w'):Only S w w':=⟨h.os,h.tape,h.output,h.size,fun i hi _=>h.block i hi⟩
theorem Only.then_below (h:Only S a b)(k:Below b.heap.size b c):Only S a c:=h.trans (Only.of_below k)
theorem Only.of_grown {row:Option Nat}(h:w.grownBy w' row):Only (fun k=>some k=row) w w':=⟨h.os,h.tape,h.output,h.size,h.block⟩
theorem Only.below {B:Nat}(h:Only S w w')(hB:B≤w.heap.size)(hs:∀ k,k<B→¬ S k):Below B w w':=⟨h.os,h.tape,h.output,h.size,fun i hi=>h.block i (by omega) (hs i hi)⟩
end
section
variable {S:Nat→Prop}{w w':World}{g:Nat}{t:TypeId}{cs:Array Value}
theorem Blk.only (h:Blk w g t cs)(ho:Only S w w')(hg:¬ S g):Blk w' g t cs:=(ho.block g h.lt hg).trans h
theorem Q9 {base:Nat}{e:TypeId}{size:Nat}{v:Value}{n:Nat}{xs:List Value}(h:w.ownsRow base e size v n xs)(ho:Only S w w')(hg:∀ k,v.ownBlock=some k→¬ S k):w'.ownsRow base e size v n xs:=by
 rcases h with ⟨h1,h | ⟨g,cap,cur,rfl,h3,hb,h4⟩⟩
 ·exact⟨h1,.inl h⟩
 ·exact⟨h1,.inr ⟨g,cap,cur,rfl,h3,(ho.block g (Array.getElem?_eq_some_iff.1 hb).1 (hg g rfl)).trans hb,h4⟩⟩
theorem Qm {base:Nat}{e:TypeId}{size:Nat}{v:Value}{n:Nat}{xs:List Value}(h:w.ownsRow base e size v n xs):∃ A c,v=.slice A n c:=by
 rcases h with ⟨h1,⟨rfl,rfl⟩ | ⟨g,cap,cur,rfl,_⟩⟩
 ·exact⟨none,0,rfl⟩
 ·exact⟨_,_,rfl⟩
theorem Sl.only {size n:Nat}{v:Value}{xs:List Value}(h:Sl w size v n xs)(ho:Only S w w')(hg:∀ A:Addr,∀ c,v=.slice (some A) n c→0<n→¬ S A.block):Sl w' size v n xs:=by
 obtain⟨A,c,rfl,h2,h3,h4,h4',h5⟩:=h;refine⟨A,c,rfl,h2,h3,h4,h4',fun hn=>?_⟩;obtain⟨ad,rfl,hb1,hc⟩:=h5 hn;refine⟨ad,rfl,Nat.lt_of_lt_of_le hb1 ho.size,fun j u hu=>?_⟩;rw[← hc j u hu];exact World.cell?_of_block (by rw[Qaz];exact ho.block _ hb1 (hg ad c rfl hn))
theorem Blk.put1 {x y:Value}(h:Blk w g t #[x]):Blk (w.setCell ⟨g,0,none⟩ y) g t #[y]:=h.set_ 0 y
end
section
variable {P:Program}{ops:Array Oper}{Q:Exit→Act→World→Prop}{a:Act}{W:World}{rest:List Oper}{o:Oper}{s x:Operand}{t e:TypeId}{size bytes base n m:Nat}{v:Value}{xs:List Value}
theorem QE (E:El P t e size bytes)(cs:Array Value)(hown:W.ownsRow base e size v n xs)(hgd:o.guard=none)
  (ho:o.op=.call { callee:=.builtin .append,args:=#[s,x],argTypes:=#[t,t] }) (hs:a.eval s=v) {H:Nat} (hx:a.eval x=.slice (some ⟨H,0,none⟩) m m) (hH:W.heap.size=H)
  (hl:cs.size=m*size) (h1:∀ u∈cs.toList,u.oneCell'=true) (h63:n+m≤maxLen) (hbytes:(n+m)*bytes≤140737488355328) (hbase:base≤W.heap.size)
  (h:∀ v' w',w'.ownsRow base e size v' (n+m) (xs++cs.toList)→Below base W w'→W.grownBy w' v.ownBlock→(∀ k,v'.ownBlock=some k→v.ownBlock=some k∨W.heap.size≤k)→wpList P ops Q rest (a.put o.dst v') w'):wpList P ops Q (o :: rest) a (W.alloc (.cells cs e)):=by
 subst hH;obtain⟨i,z,hi,hz,hsi,hby,hzs⟩:=E.hi;refine wpList_append_own_at _ hgd s x t ho base e i z size bytes E.ht hi hz hsi hby hzs E.pos v n xs hs (hown.alloc _) ⟨W.heap.size,0,none⟩ m m cs.toList hx (by simpa using hl) ?_ h1 h63 hbytes (by simp;omega) ?_
 ·intro j u hu
  have:(⟨W.heap.size,0,none⟩:Addr).add j=⟨W.heap.size,j,none⟩:=by unfold Addr.add;split<;>simp_all
  rw[this,World.cell?_alloc_new];simpa using hu
 ·intro v' w' ho' hg _ hk;have hlt:=hown.lt;have hg':W.grownBy w' v.ownBlock:=⟨hg.os,hg.tape,hg.output,Nat.le_trans (by simp) hg.size,fun k hk hne=>(hg.block k (by simp;omega) hne).trans (Below.heap_alloc W _ k hk)⟩;refine h v' w' ho' ⟨hg'.os,hg'.tape,hg'.output,hg'.size,fun k hk=>?_⟩ hg' (fun k hk'=>?_)
  ·exact hg'.block k (by omega) (fun e=>by have:=hlt k e.symm;omega)
  ·rcases hk with hk | hk
   ·exact .inl (hk ▸ hk')
   ·rw[hk] at hk'
    have:=Option.some.inj hk'
    simp at this;exact .inr (by omega)
end
def Frs (B:Nat)(v:Value):Prop:=∀ ad n c,v=.slice (some ad) n c→B≤ad.block
theorem Frs.of_own {w:World}{base:Nat}{e:TypeId}{size n:Nat}{v:Value}{xs:List Value}(h:w.ownsRow base e size v n xs):Frs base v:=by
 intro ad m c e;subst e;rcases h.2 with ⟨h1,-⟩ | ⟨g,cap,cur,h1,hb,-⟩
 ·cases h1
 ·cases h1;exact hb
theorem Frs.mono {B B':Nat}{v:Value}(h:Frs B v)(hb:B'≤B):Frs B' v:=fun ad n c e=>Nat.le_trans hb (h ad n c e)
theorem Frs.nil (B:Nat):Frs B (.slice none 0 0):=fun ad n c e=>by cases e
theorem Sl.frs {w w':World}{S:Nat→Prop}{B n size:Nat}{v:Value}{xs:List Value}(h:Sl w size v n xs)(hf:Frs B v)(ho:Only S w w')(hs:∀ k,S k→k<B):Sl w' size v n xs :=
 h.only ho (fun A c e _ hA=>by have:=hf A n c e;have:=hs _ hA;omega)
def FrE1 (B:Nat)(e:Ending):Prop:=∀ v,e=.returned v→Frs B v
def FrE (B:Nat)(e:Ending):Prop:=∀ v x,e=.returned (.tuple #[v,x])→Frs B v
theorem frE1 {B:Nat}{v:Value}(h:Frs B v):FrE1 B (.returned v):=fun v' e=>by cases e;exact h
theorem frE {B:Nat}{v x:Value}(h:Frs B v):FrE B (.returned (.tuple #[v,x])):=fun v' x' e=>by cases e;exact h
end
section
inductive RU (α:Type) where
 | p (r:α)
 | k
 | d
def rap {α:Type}:List (RU α)→List α→List α
 | .p r :: X,R=>r :: rap X R
 | .k :: X,r :: R=>r :: rap X R
 | .d :: X,_ :: R=>rap X R
 | _,_=>[]
def Qc {α:Type}:List (RU α)→Nat
 | []=>0
 | .p _ :: X=>Qc X
 | .k :: X=>Qc X+1
 | .d :: X=>Qc X+1
def Qh {α:Type}:List (RU α)→Nat
 | []=>0
 | .p _ :: X=>Qh X+1
 | .k :: X=>Qh X+1
 | .d :: X=>Qh X
theorem Jm {α:Type}{X:List (RU α)}{R:List α}(h:Qc X=R.length):(rap X R).length=Qh X:=by
 induction X generalizing R with
 | nil=>simp[rap,Qh]
 | cons x X ih =>
  cases x with
  | p r=>simp[rap,Qh,ih (R:=R) h]
  | k=>cases R with
   | nil=>simp[Qc] at h
   | cons r R=>simp[rap,Qh,ih (R:=R) (by simpa [Qc] using h)]
  | d=>cases R with
   | nil=>simp[Qc] at h
   | cons r R=>simp[rap,Qh,ih (R:=R) (by simpa [Qc] using h)]
def rtr {α:Type}(first:Bool):List (RU α)→List (RU α)→List (RU α)
 | .p r :: X,.p s :: Y=>if first=true then .p r :: rtr first X (.p s :: Y) else .k :: rtr first (.p r :: X) Y
 | .p r :: X,.k :: Y=>.p r :: rtr first X (.k :: Y)
 | .p r :: X,.d :: Y=>.p r :: rtr first X (.d :: Y)
 | .p r :: X,[]=>.p r :: rtr first X []
 | .k :: X,.p _ :: Y=>.k :: rtr first (.k :: X) Y
 | .d :: X,.p _ :: Y=>.k :: rtr first (.d :: X) Y
 | [],.p _ :: Y=>.k :: rtr first [] Y
 | .k :: X,.k :: Y=>.k :: rtr first X Y
 | .d :: X,.k :: Y=>.d :: rtr first X Y
 | .k :: X,.d :: Y=>rtr first X Y
 | .d :: X,.d :: Y=>rtr first X Y
 | .k :: _,[]=>[]
 | .d :: _,[]=>[]
 | [],.k :: _=>[]
 | [],.d :: _=>[]
 | [],[]=>[]
termination_by X Y=>X.length+Y.length
def rcm {α:Type}:List (RU α)→List (RU α)→List (RU α)
 | .d :: X,Y=>.d :: rcm X Y
 | .p r :: X,.p s :: Y=>.p s :: rcm (.p r :: X) Y
 | .k :: X,.p s :: Y=>.p s :: rcm (.k :: X) Y
 | [],.p s :: Y=>.p s :: rcm [] Y
 | .p r :: X,.k :: Y=>.p r :: rcm X Y
 | .p _ :: X,.d :: Y=>rcm X Y
 | .k :: X,.k :: Y=>.k :: rcm X Y
 | .k :: X,.d :: Y=>.d :: rcm X Y
 | .p _ :: _,[]=>[]
 | .k :: _,[]=>[]
 | [],.k :: _=>[]
 | [],.d :: _=>[]
 | [],[]=>[]
termination_by X Y=>X.length+Y.length
theorem Qfq {α:Type}{first:Bool}{X Y:List (RU α)}{R:List α}(hx:Qc X=R.length)(hy:Qc Y=R.length) :
  rap (rtr first X Y) (rap Y R)=rap (rtr (!first) Y X) (rap X R)∧Qc (rtr first X Y)=Qh Y∧Qc (rtr (!first) Y X)=Qh X:=by
 generalize hm:X.length+Y.length=m
 induction m using Nat.strongRecOn generalizing X Y R with
 | _ m ih =>
  have step:∀ (X' Y':List (RU α)) (R':List α),X'.length+Y'.length<m→Qc X'=R'.length→Qc Y'=R'.length →
   rap (rtr first X' Y') (rap Y' R')=rap (rtr (!first) Y' X') (rap X' R')∧Qc (rtr first X' Y')=Qh Y'∧Qc (rtr (!first) Y' X')=Qh X':=fun X' Y' R' h1 h2 h3=>ih _ h1 h2 h3 rfl
  clear ih
  match X,Y,R with
  | [],[],R=>cases first<;>simp[rtr,rap,Qc,Qh]
  | .p r :: X,[],R =>
   have:=step X [] R (by simp at hm ⊢;omega) hx hy
   cases first<;>simp_all [rtr,rap,Qc,Qh]
  | [],.p r :: Y,R =>
   have:=step [] Y R (by simp at hm ⊢;omega) hx hy
   cases first<;>simp_all [rtr,rap,Qc,Qh]
  | .k :: X,[],R=>simp[Qc] at hx hy;omega
  | .d :: X,[],R=>simp[Qc] at hx hy;omega
  | [],.k :: X,R=>simp[Qc] at hx hy;omega
  | [],.d :: X,R=>simp[Qc] at hx hy;omega
  | .p r :: X,.p s :: Y,R =>
   cases first with
   | true =>
    have:=step X (.p s :: Y) R (by simp at hm ⊢;omega) hx hy
    simp_all [rtr,rap,Qc,Qh]
   | false =>
    have:=step (.p r :: X) Y R (by simp at hm ⊢;omega) hx hy
    simp_all [rtr,rap,Qc,Qh]
  | .p r :: X,.k :: Y,R =>
   have:=step X (.k :: Y) R (by simp at hm ⊢;omega) hx hy
   cases first<;>simp_all [rtr,rap,Qc,Qh]
  | .p r :: X,.d :: Y,R =>
   have:=step X (.d :: Y) R (by simp at hm ⊢;omega) hx hy
   cases first<;>simp_all [rtr,rap,Qc,Qh]
  | .k :: X,.p s :: Y,R =>
   have:=step (.k :: X) Y R (by simp at hm ⊢;omega) hx hy
   cases first<;>simp_all [rtr,rap,Qc,Qh]
  | .d :: X,.p s :: Y,R =>
   have:=step (.d :: X) Y R (by simp at hm ⊢;omega) hx hy
   cases first<;>simp_all [rtr,rap,Qc,Qh]
  | .k :: X,.k :: Y,[]=>simp[Qc] at hx
  | .k :: X,.d :: Y,[]=>simp[Qc] at hx
  | .d :: X,.k :: Y,[]=>simp[Qc] at hx
  | .d :: X,.d :: Y,[]=>simp[Qc] at hx
  | .k :: X,.k :: Y,r :: R =>
   have:=step X Y R (by simp at hm ⊢;omega) (by simpa [Qc] using hx) (by simpa [Qc] using hy)
   simp_all [rtr,rap,Qc,Qh]
  | .k :: X,.d :: Y,r :: R =>
   have:=step X Y R (by simp at hm ⊢;omega) (by simpa [Qc] using hx) (by simpa [Qc] using hy)
   simp_all [rtr,rap,Qc,Qh]
  | .d :: X,.k :: Y,r :: R =>
   have:=step X Y R (by simp at hm ⊢;omega) (by simpa [Qc] using hx) (by simpa [Qc] using hy)
   simp_all [rtr,rap,Qc,Qh]
  | .d :: X,.d :: Y,r :: R =>
   have:=step X Y R (by simp at hm ⊢;omega) (by simpa [Qc] using hx) (by simpa [Qc] using hy)
   simp_all [rtr,rap,Qc,Qh]
theorem Qfr {α:Type}{X Y:List (RU α)}(h:Qc Y=Qh X):Qc (rcm X Y)=Qc X∧Qh (rcm X Y)=Qh Y:=by
 generalize hm:X.length+Y.length=m
 induction m using Nat.strongRecOn generalizing X Y with
 | _ m ih =>
  have step:∀ (X' Y':List (RU α)),X'.length+Y'.length<m→Qc Y'=Qh X'→Qc (rcm X' Y')=Qc X'∧Qh (rcm X' Y')=Qh Y':=fun X' Y' h1 h2=>ih _ h1 h2 rfl
  clear ih
  match X,Y with
  | .d :: X,Y=>have:=step X Y (by simp at hm ⊢;omega) h;simp_all [rcm,Qc,Qh]
  | .p r :: X,.p s :: Y=>have:=step (.p r :: X) Y (by simp at hm ⊢;omega) h;simp_all [rcm,Qc,Qh]
  | .k :: X,.p s :: Y=>have:=step (.k :: X) Y (by simp at hm ⊢;omega) h;simp_all [rcm,Qc,Qh]
  | [],.p s :: Y=>have:=step [] Y (by simp at hm ⊢;omega) h;simp_all [rcm,Qc,Qh]
  | .p r :: X,.k :: Y=>have:=step X Y (by simp at hm ⊢;omega) (by simpa [Qc,Qh] using h);simp_all [rcm,Qc,Qh]
  | .p r :: X,.d :: Y=>have:=step X Y (by simp at hm ⊢;omega) (by simpa [Qc,Qh] using h);simp_all [rcm,Qc,Qh]
  | .k :: X,.k :: Y=>have:=step X Y (by simp at hm ⊢;omega) (by simpa [Qc,Qh] using h);simp_all [rcm,Qc,Qh]
  | .k :: X,.d :: Y=>have:=step X Y (by simp at hm ⊢;omega) (by simpa [Qc,Qh] using h);simp_all [rcm,Qc,Qh]
  | .p r :: X,[]=>simp[Qc,Qh] at h
  | .k :: X,[]=>simp[Qc,Qh] at h
  | [],.k :: Y=>simp[Qc,Qh] at h
  | [],.d :: Y=>simp[Qc,Qh] at h
  | [],[]=>simp[rcm,Qc,Qh]
theorem Qm4 {α:Type}{X Y:List (RU α)}{R:List α}(hx:Qc X=R.length)(hy:Qc Y=Qh X):rap (rcm X Y) R=rap Y (rap X R):=by
 generalize hm:X.length+Y.length=m
 induction m using Nat.strongRecOn generalizing X Y R with
 | _ m ih =>
  have step:∀ (X' Y':List (RU α)) (R':List α),X'.length+Y'.length<m→Qc X'=R'.length→Qc Y'=Qh X'→rap (rcm X' Y') R'=rap Y' (rap X' R'):=fun X' Y' R' h1 h2 h3=>ih _ h1 h2 h3 rfl
  clear ih
  match X,Y,R with
  | .d :: X,Y,r :: R=>have:=step X Y R (by simp at hm ⊢;omega) (by simpa [Qc] using hx) hy;simp_all [rcm,Qc,Qh,rap]
  | .p r :: X,.p s :: Y,R=>have:=step (.p r :: X) Y R (by simp at hm ⊢;omega) hx hy;simp_all [rcm,Qc,Qh,rap]
  | .k :: X,.p s :: Y,R=>have:=step (.k :: X) Y R (by simp at hm ⊢;omega) hx hy;simp_all [rcm,Qc,Qh,rap]
  | [],.p s :: Y,R=>have:=step [] Y R (by simp at hm ⊢;omega) hx hy;simp_all [rcm,Qc,Qh,rap]
  | .p r :: X,.k :: Y,R=>have:=step X Y R (by simp at hm ⊢;omega) hx (by simpa [Qc,Qh] using hy);simp_all [rcm,Qc,Qh,rap]
  | .p r :: X,.d :: Y,R=>have:=step X Y R (by simp at hm ⊢;omega) hx (by simpa [Qc,Qh] using hy);simp_all [rcm,Qc,Qh,rap]
  | .k :: X,.k :: Y,r :: R=>have:=step X Y R (by simp at hm ⊢;omega) (by simpa [Qc] using hx) (by simpa [Qc,Qh] using hy);simp_all [rcm,Qc,Qh,rap]
  | .k :: X,.d :: Y,r :: R=>have:=step X Y R (by simp at hm ⊢;omega) (by simpa [Qc] using hx) (by simpa [Qc,Qh] using hy);simp_all [rcm,Qc,Qh,rap]
  | .d :: X,Y,[]=>simp[Qc] at hx
  | .k :: X,.k :: Y,[]=>simp[Qc] at hx
  | .k :: X,.d :: Y,[]=>simp[Qc] at hx
  | .p r :: X,[],R=>simp[Qc,Qh] at hy
  | .k :: X,[],R=>simp[Qc,Qh] at hy
  | [],.k :: Y,R=>simp[Qc,Qh] at hy
  | [],.d :: Y,R=>simp[Qc,Qh] at hy
  | [],[],R=>simp[rcm,rap]
def rnm {α:Type}:Nat→List (RU α)→List (RU α)
 | n,.p r :: X=>.p r :: rnm n X
 | n,.d :: X=>rnm (n+1) X
 | n,.k :: X=>List.replicate n .d++.k :: rnm 0 X
 | n,[]=>List.replicate n .d
theorem Qfs {α:Type}(n:Nat)(X:List (RU α))(R:List α):rap (List.replicate n .d++X) R=if n≤R.length then rap X (R.drop n) else []:=by
 induction n generalizing R with
 | zero=>simp
 | succ n ih =>
  rw[Wat,Wap]
  cases R with
  | nil=>simp[rap]
  | cons r R=>rw[rap,ih];simp
theorem Qft {α:Type}(X Y:List (RU α)):Qc (X++Y)=Qc X+Qc Y:=by
 induction X with
 | nil=>simp[Qc]
 | cons x X ih=>cases x<;>simp[Qc,ih]<;>omega
theorem Qm5 {α:Type}(X Y:List (RU α)):Qh (X++Y)=Qh X+Qh Y:=by
 induction X with
 | nil=>simp[Qh]
 | cons x X ih=>cases x<;>simp[Qh,ih]<;>omega
theorem Qcg {α:Type}(n:Nat):Qc (List.replicate n (.d:RU α))=n:=by
 induction n with
 | zero=>rfl
 | succ n ih=>rw[Wat,Qc,ih]
theorem Qfu {α:Type}(n:Nat):Qh (List.replicate n (.d:RU α))=0:=by
 induction n with
 | zero=>rfl
 | succ n ih=>rw[Wat,Qh,ih]
theorem Qfv {α:Type}(n:Nat)(X:List (RU α)):Qc (rnm n X)=n+Qc X∧Qh (rnm n X)=Qh X:=by
 induction X generalizing n with
 | nil=>simp[rnm,Qcg,Qfu,Qc,Qh]
 | cons x X ih =>
  cases x with
  | p r=>have:=ih n;simp[rnm,Qc,Qh,this]
  | d=>have:=ih (n+1);simp[rnm,Qc,Qh,this];omega
  | k=>have:=ih 0;simp[rnm,Qc,Qh,this,Qft,Qm5,Qcg,Qfu]
theorem Jn {α:Type}(n:Nat)(X:List (RU α))(R:List α)(h:n+Qc X≤R.length):rap (rnm n X) R=rap X (R.drop n):=by
 induction X generalizing n R with
 | nil=>rw[rnm];have:=Qfs n [] R;rw[Wam] at this;rw[this];simp[rap]
 | cons x X ih =>
  cases x with
  | p r=>simp only[rnm,rap];rw[ih n R h]
  | d =>
   rw[Qc] at h;rw[rnm,ih (n+1) R (by omega),Wbl (show n<R.length by omega),rap]
  | k =>
   rw[Qc] at h;rw[rnm,Qfs,if_pos (by omega),Wbl (show n<R.length by omega),rap,rap,ih 0 (R.drop (n+1)) (by rw[War];omega),List.drop_zero]
def Zi {α β:Type}(f:α→β):List (RU α)→List (RU β)
 | []=>[]
 | .p r :: X=>.p (f r) :: Zi f X
 | .k :: X=>.k :: Zi f X
 | .d :: X=>.d :: Zi f X
def Za {α:Type}:List (RU α)→List Bool
 | []=>[]
 | .p _ :: X=>Za X
 | .k :: X=>true :: Za X
 | .d :: X=>false :: Za X
def rws {α:Type}(wt:α→Nat):List (RU α)→Nat
 | []=>0
 | .p r :: X=>wt r+rws wt X
 | .k :: X=>rws wt X
 | .d :: X=>rws wt X
theorem Qfw {α:Type}(wt:α→Nat)(n:Nat)(X:List (RU α)):rws wt (rnm n X)=rws wt X:=by
 have ds:∀ (k:Nat) (Y:List (RU α)),rws wt (List.replicate k .d++Y)=rws wt Y:=by
  intro k Y
  induction k with
  | zero=>rfl
  | succ k ih=>rw[Wat,Wap,rws,ih]
 induction X generalizing n with
 | nil=>have:=ds n [];simp only[Wam] at this;simp only[rnm,this]
 | cons x X ih =>
  cases x with
  | p r=>simp[rnm,rws,ih]
  | k=>simp[rnm,rws,ih,ds]
  | d=>simp only[rnm,rws,ih]
theorem Qm6 {α:Type}(wt:α→Nat){first:Bool}{Z Y:List (RU α)}(h:Qc Z=Qc Y):Za (rtr first Z Y)=rap (Zi (fun _=>true) Y) (Za Z)∧rws wt (rtr first Z Y)=rws wt Z:=by
 generalize hm:Z.length+Y.length=m
 induction m using Nat.strongRecOn generalizing Z Y with
 | _ m ih =>
  have step:∀ (X' Y':List (RU α)),X'.length+Y'.length<m→Qc X'=Qc Y'→Za (rtr first X' Y')=rap (Zi (fun _=>true) Y') (Za X')∧rws wt (rtr first X' Y')=rws wt X':=fun X' Y' h1 h2=>ih _ h1 h2 rfl
  clear ih
  match Z,Y with
  | [],[]=>simp[rtr,Za,Zi,rap,rws]
  | .p r :: X,[]=>have:=step X [] (by simp at hm ⊢;omega) h;simp_all [rtr,Za,Zi,rap,rws]
  | [],.p r :: Y=>have:=step [] Y (by simp at hm ⊢;omega) h;simp_all [rtr,Za,Zi,rap,rws]
  | .k :: X,[]=>simp[Qc] at h
  | .d :: X,[]=>simp[Qc] at h
  | [],.k :: X=>simp[Qc] at h
  | [],.d :: X=>simp[Qc] at h
  | .p r :: X,.p s :: Y =>
   cases first with
   | true=>have:=step X (.p s :: Y) (by simp at hm ⊢;omega) h;simp_all [rtr,Za,Zi,rap,rws]
   | false=>have:=step (.p r :: X) Y (by simp at hm ⊢;omega) h;simp_all [rtr,Za,Zi,rap,rws]
  | .p r :: X,.k :: Y=>have:=step X (.k :: Y) (by simp at hm ⊢;omega) h;simp_all [rtr,Za,Zi,rws]
  | .p r :: X,.d :: Y=>have:=step X (.d :: Y) (by simp at hm ⊢;omega) h;simp_all [rtr,Za,Zi,rws]
  | .k :: X,.p s :: Y=>have:=step (.k :: X) Y (by simp at hm ⊢;omega) h;simp_all [rtr,Za,Zi,rap,rws]
  | .d :: X,.p s :: Y=>have:=step (.d :: X) Y (by simp at hm ⊢;omega) h;simp_all [rtr,Za,Zi,rap,rws]
  | .k :: X,.k :: Y=>have:=step X Y (by simp at hm ⊢;omega) (by simpa [Qc] using h);simp_all [rtr,Za,Zi,rap,rws]
  | .k :: X,.d :: Y=>have:=step X Y (by simp at hm ⊢;omega) (by simpa [Qc] using h);simp_all [rtr,Za,Zi,rap,rws]
  | .d :: X,.k :: Y=>have:=step X Y (by simp at hm ⊢;omega) (by simpa [Qc] using h);simp_all [rtr,Za,Zi,rap,rws]
  | .d :: X,.d :: Y=>have:=step X Y (by simp at hm ⊢;omega) (by simpa [Qc] using h);simp_all [rtr,Za,Zi,rap,rws]
end
section
namespace U
def hv (r:Int):List Int:=if r<65536 then [r] else [55296+(r-65536) / 1024,56320+(r-65536) % 1024]
def hvs (rs:List Int):List Int:=rs.flatMap hv
theorem hvs_nil:hvs []=[]:=rfl
theorem hvs_cons (r:Int)(rs:List Int):hvs (r :: rs)=hv r++hvs rs:=by simp[hvs]
theorem hvs_append (a b:List Int):hvs (a++b)=hvs a++hvs b:=by simp[hvs]
def hwid (r:Int):Nat:=if r<65536 then 1 else 2
theorem hv_length (r:Int):(hv r).length=hwid r:=by unfold hv hwid;split<;>rfl
theorem hwid_pos (r:Int):0<hwid r:=by unfold hwid;split<;>omega
theorem hwid_le (r:Int):hwid r≤2:=by unfold hwid;split<;>omega
theorem hvs_len_le (rs:List Int):(hvs rs).length≤2*rs.length:=by
 induction rs with
 | nil=>simp[hvs_nil]
 | cons r rs ih =>
  rw[hvs_cons,Wad,hv_length,Wan]
  have:=hwid_le r
  omega
theorem encs_le_hvs (rs:List Int):(encs rs).length≤4*(hvs rs).length:=by
 induction rs with
 | nil=>simp[hvs_nil,encs_nil]
 | cons r rs ih =>
  rw[hvs_cons,encs_cons,Wad,Wad,enc_length,hv_length]
  have:=wid_le r
  have:=hwid_pos r
  omega
def BadH (l:List Int):Prop:=match l with
 | []=>True
 | [a]=>55296≤a∧a<57344
 | a :: b :: _=>55296≤a∧a<57344∧(56320≤a∨b<56320∨57344≤b)
structure Hp (l pre rest:List Int):Prop where
 all:AllR pre
 eq:l=hvs pre++rest
 bad:BadH rest
def InH (l:List Int):Prop:=∀ a∈l,0≤a∧a<65536
def hoff (rs:List Int)(k:Nat):Nat:=(hvs (rs.take k)).length
theorem hoff_succ {rs:List Int}{k:Nat}(h:k<rs.length):hoff rs (k+1)=hoff rs k+hwid rs[k]:=by
 unfold hoff;rw[Wag h,hvs_append,Wad,hvs_cons,hvs_nil,Wam,hv_length]
theorem hoff_full (rs:List Int):hoff rs rs.length=(hvs rs).length:=by unfold hoff;rw[Wbe]
theorem Qgq (rs:List Int)(k:Nat)(rest:List Int):(hvs rs++rest).drop (hoff rs k)=hvs (rs.drop k)++rest:=by
 have:hvs rs++rest=hvs (rs.take k)++(hvs (rs.drop k)++rest):=by rw[← Wah,← hvs_append,Wbh]
 rw[this];unfold hoff;rw[List.drop_left]
theorem hoff_lt {rs:List Int}{k:Nat}(h:k<rs.length):hoff rs k<hoff rs rs.length:=by
 have e:hoff rs rs.length=hoff rs k+(hvs (rs.drop k)).length:=by
  rw[hoff_full,hoff,← Wad,← hvs_append,Wbh]
 rw[e,Wbl h,hvs_cons,Wad,hv_length]
 have:=hwid_pos rs[k]
 omega
theorem hoff_le {rs:List Int}{k:Nat}(h:k≤rs.length):hoff rs k≤hoff rs rs.length:=by
 rcases Nat.lt_or_ge k rs.length with h1 | h1
 ·exact Nat.le_of_lt (hoff_lt h1)
 ·rw[show k=rs.length from Nat.le_antisymm h h1];exact Wak _
theorem hvs_in {rs:List Int}(h:AllR rs):InH (hvs rs):=by
 induction rs with
 | nil=>intro a ha;simp[hvs_nil] at ha
 | cons r rs ih =>
  intro a ha;rw[hvs_cons,List.mem_append] at ha;rcases ha with ha | ha
  ·have hr:=right_iff.1 (h r List.mem_cons_self);unfold hv at ha
   split at ha
   ·simp at ha;omega
   ·simp at ha;omega
  ·exact ih (fun x hx=>h x (List.mem_cons_of_mem _ hx)) a ha
variable {l pre rest:List Int}
theorem Hp.length (h:Hp l pre rest):l.length=hoff pre pre.length+rest.length:=by rw[h.eq,Wad,hoff_full]
theorem Hp.at_ (h:Hp l pre rest){k:Nat}(hk:k<pre.length)(j:Nat)(hj:j<hwid pre[k]):l[hoff pre k+j]?=(hv pre[k])[j]?:=by
 have e:l.drop (hoff pre k)=hv pre[k]++(hvs (pre.drop (k+1))++rest):=by
  rw[h.eq,Qgq,Wbl hk,hvs_cons,Wah]
 have:=congrArg (fun x=>x[j]?) e
 simp only[List.getElem?_drop] at this;rw[this,List.getElem?_append_left (by rw[hv_length];exact hj)]
theorem Hp.end_ (h:Hp l pre rest)(j:Nat):l[hoff pre pre.length+j]?=rest[j]?:=by
 have e:l.drop (hoff pre pre.length)=rest:=by
  rw[h.eq,Qgq,List.drop_length,hvs_nil,Wbn]
 have:=congrArg (fun x=>x[j]?) e
 simpa only [List.getElem?_drop] using this
end U
end
section
open Go.RowKit
section
variable {P:Program}{ops:Array Oper}{Q:Exit→Act→World→Prop}{K:Act→World→Prop}{F:Prop}{a:Act}{W:World}{o:Oper}{s x:Operand}{t e:TypeId}{size bytes base n m:Nat}{v:Value}{xs:List Value}
theorem Qqj (E:El P t e size bytes)(ty:TypeId)(ys:List Value)(u:Value)(hown:W.ownsRow base e size v n xs)(hsl:Sl W size u m ys)
  (h1:∀ u∈ys,u.oneCell'=true) (h63:n+m≤maxLen) (hbytes:(n+m)*bytes≤140737488355328) (hbase:base≤W.heap.size) :
  ∃ v' w',(Builtin.append_ #[t,t] ty #[v,u]).run P W=.ok v' w'∧w'.ownsRow base e size v' (n+m) (xs++ys)∧Below base W w'∧W.grownBy w' v.ownBlock∧(∀ k,v'.ownBlock=some k→v.ownBlock=some k∨W.heap.size≤k):=by
 obtain⟨i,z,hi,hz,hsi,hby,hzs⟩:=E.hi;have hlt:=hown.lt
 have bel:∀ w',W.grownBy w' v.ownBlock→Below base W w':=fun w' hg' =>
  ⟨hg'.os,hg'.tape,hg'.output,hg'.size,fun k hk=>hg'.block k (by omega) (fun e=>by have:=hlt k e.symm;omega)⟩
 obtain⟨A,c,rfl,hl,_,_,h4,h5⟩:=hsl
 cases A with
 | none =>
  have hm:m=0:=by
   rcases Nat.eq_zero_or_pos m with h | h
   ·exact h
   ·obtain⟨ad,hh,_⟩:=h5 h
    cases hh
  subst hm;obtain rfl:=h4 rfl;have hy:ys=[]:=List.eq_nil_of_length_eq_zero (by simpa using hl);subst hy;have hg:W.grownBy W v.ownBlock:=⟨rfl,rfl,rfl,Nat.le_refl _,fun _ _ _=>rfl⟩
  exact⟨v,W,run_append_owned_none (P:=P) (w:=W) base t ty e i size E.ht hi v n xs hown,by simpa using hown,bel _ hg,hg,fun k hk=>.inl hk⟩
 | some ad =>
  have hc:∀ j u,ys[j]?=some u→W.cell? (ad.add j)=some u:=by
   intro j u hu
   have hj:j<ys.length:=by
    rcases Nat.lt_or_ge j ys.length with h | h
    ·exact h
    ·rw[List.getElem?_eq_none h] at hu;cases hu
   have hm:0<m:=by
    rcases Nat.eq_zero_or_pos m with h | h
    ·subst h;simp at hl;subst hl;simp at hj
    ·exact h
   obtain⟨ad',e',_,hc⟩:=h5 hm
   cases e'
   exact hc j u hu
  obtain⟨v',w',hrun,h2,h3,_,hk⟩:=run_append_own_at (P:=P) W base t ty e i z size bytes E.ht hi hz hsi hby hzs E.pos v n xs hown ad m c ys hl hc h1 h63 hbytes hbase;refine⟨v',w',hrun,h2,bel _ h3,h3,fun k hk'=>?_⟩;rcases hk with hk | hk
  ·exact .inl (hk ▸ hk')
  ·rw[hk] at hk'
   have:=Option.some.inj hk'
   exact .inr (by omega)
theorem ZL (E:El P t e size bytes)(ys:List Value)(u:Value)(hown:W.ownsRow base e size v n xs)(hsl:Sl W size u m ys)(hgd:o.guard=none)
  (ho:o.op=.call { callee:=.builtin .append,args:=#[s,x],argTypes:=#[t,t] }) (hs:a.eval s=v) (hx:a.eval x=u)
  (h1:∀ u∈ys,u.oneCell'=true) (h63:n+m≤maxLen) (hbytes:(n+m)*bytes≤140737488355328) (hbase:base≤W.heap.size)
  (h:∀ v' w',w'.ownsRow base e size v' (n+m) (xs++ys)→Below base W w'→W.grownBy w' v.ownBlock→(∀ k,v'.ownBlock=some k→v.ownBlock=some k∨W.heap.size≤k)→K (a.put o.dst v') w') :
  if Region.wanted o (yielded ops a.tmps)=true then Oper.wp P o a W K Q else F:=by
 have hw:Region.wanted o (yielded ops a.tmps)=true:=by simp[Region.wanted,hgd]
 rw[if_pos hw];obtain⟨v',w',hrun,h2,h3,h4,h5⟩:=Qqj E o.type ys u hown hsl h1 h63 hbytes hbase;unfold Oper.wp;simp[execOp,ho,resolve,invoke,builtin,hs,hx,hrun,Result.andThen]
 exact h v' w' h2 h3 h4 h5
theorem Qqk (E:El P t e size bytes)(ty:TypeId)(hown:W.ownsRow base e size v n xs)(A:Option Addr)(c:Nat) :
  (Builtin.append_ #[t,t] ty #[v,.slice A 0 c]).run P W=.ok v W:=by
 obtain⟨i,z,hi,hz,hsi,hby,hzs⟩:=E.hi;have ht:=E.ht;rcases hown.2 with ⟨rfl,rfl⟩ | ⟨g,cap,cur,rfl,_,_,hnc,_⟩
 ·cases A<;>simp[Builtin.append_,run_underlying ht,sizeOf,typeInfo,hi,Builtin.lenOf,Builtin.firstCells,loadCells,loadCellsFrom,Result.andThen]
 ·cases A<;>simp[Builtin.append_,run_underlying ht,sizeOf,typeInfo,hi,Builtin.lenOf,Builtin.firstCells,loadCells,loadCellsFrom,Result.andThen,hnc,storeCells]
theorem Z6 (E:El P t e size bytes)(hown:W.ownsRow base e size v n xs){A:Option Addr}{c:Nat}(hgd:o.guard=none)
  (ho:o.op=.call { callee:=.builtin .append,args:=#[s,x],argTypes:=#[t,t] }) (hs:a.eval s=v) (hx:a.eval x=.slice A 0 c)
  (h:K (a.put o.dst v) W) :
  if Region.wanted o (yielded ops a.tmps)=true then Oper.wp P o a W K Q else F:=by
 have hw:Region.wanted o (yielded ops a.tmps)=true:=by simp[Region.wanted,hgd]
 rw[if_pos hw];have hrun:=Qqk E o.type hown A c;unfold Oper.wp;simp[execOp,ho,resolve,invoke,builtin,hs,hx,hrun,Result.andThen]
 exact h
end
theorem Sl.part1 {w:World}{xs:List Value}{b o n c i m:Nat}(h:Sl w 1 (.slice (some ⟨b,o,none⟩) n c) n xs)(him:i+m≤n):Sl w 1 (.slice (some ⟨b,o+i,none⟩) m (c-i)) m ((xs.drop i).take m):=by
 obtain⟨A,c',hv,h2,h3,h4,h4',h5⟩:=h
 cases hv
 have hlm:((xs.drop i).take m).length=m*1:=by rw[List.length_take,List.length_drop];omega
 refine⟨_,_,rfl,hlm,by omega,by omega,(fun h=>nomatch h),fun hm=>?_⟩;obtain⟨ad,had,hb,hc⟩:=h5 (by omega)
 cases had
 refine⟨_,rfl,hb,fun j u hu=>?_⟩
 have hj:j<m:=by
  rcases Nat.lt_or_ge j m with h | h
  ·exact h
  ·rw[List.getElem?_eq_none (by omega)] at hu;cases hu
 have:=hc (i+j) u (by rw[List.getElem?_take_of_lt hj,List.getElem?_drop] at hu;exact hu)
 have am:∀ k,(⟨b,o,none⟩:Addr).add k=⟨b,o+k,none⟩:=fun k=>by cases k<;>rfl
 have am2:∀ k,(⟨b,o+i,none⟩:Addr).add k=⟨b,o+i+k,none⟩:=fun k=>by cases k<;>rfl
 rw[am] at this;rw[am2,Nat.add_assoc];exact this
theorem Sl.addr1 {w:World}{A:Option Addr}{n c:Nat}{xs:List Value}(h:Sl w 1 (.slice A n c) n xs)(hn:0<n):∃ b o,A=some ⟨b,o,none⟩:=by
 obtain⟨A',c',hv,h2,h3,h4,h4',h5⟩:=h
 cases hv
 obtain⟨ad,rfl,hb,hc⟩:=h5 hn;obtain⟨b,o,p⟩:=ad;have hl:0<xs.length:=by omega
 have hz:=hc 0 (xs[0]'hl) (List.getElem?_eq_getElem hl)
 have:(⟨b,o,p⟩:Addr).add 0=⟨b,o,p⟩:=by unfold Addr.add;rfl
 rw[this] at hz
 cases p with
 | none=>exact⟨b,o,rfl⟩
 | some x=>unfold World.cell? at hz;split at hz<;>simp at hz
end
section
open Go.ChangeShapes Go.WideShapes Go.ChangeAt Go.RowKit
open Go.ChangeMaps (open_string)
section
variable {H:Type}{enc:TypeId × Value→H}{P:Program}{w:World}{base:Nat}
theorem open_str {r:Reach}{b0:Nat}{t:TypeId}{v:Value}{d:DataW H}{ps:List MemPlace}{sp:Nat→Bool}{held:Bool}(ht:P.underlying t=some .string)(hval:Value.okWide P w r b0 t v)(hd:DataW.Trod enc P w base sp held t v d ps) :
  ∃ s:List UInt8,v=.string ⟨s.toArray⟩∧d=.lit (.string s)∧ps=[]∧s.length≤maxLen:=by
 obtain⟨s,rfl,rfl,rfl,h⟩:=open_string ht hval hd
 exact⟨s.data.toList,by rw[Array.toArray_toList],rfl,rfl,h⟩
end
end
section
open Go.RowKit
theorem Sl.from_ {w:World}{size n c k:Nat}{A:Option Addr}{xs:List Value}(h:Sl w size (.slice A n c) n xs)(hk:k≤n) :
  Sl w size (sliced A k n c size) (n-k) (xs.drop (k*size)):=by
 obtain⟨A',c',hv,h2,h3,h4,h4',h5⟩:=h
 cases hv
 have hl:(xs.drop (k*size)).length=(n-k)*size:=by rw[List.length_drop,h2,Nat.sub_mul]
 unfold sliced;refine⟨_,_,rfl,hl,by omega,by omega,fun e=>?_,fun hn=>?_⟩
 ·split at e
  ·have:=h4' e;omega
  ·cases A with
   | none=>have:=h4' rfl;omega
   | some ad=>cases e
 ·obtain⟨ad,rfl,hb,hc⟩:=h5 (by omega);rw[if_neg (by omega)];refine⟨_,rfl,by rw[Qaz];exact hb,fun j u hu=>?_⟩;rw[Qsl];exact hc _ u (by rw[List.getElem?_drop] at hu;exact hu)
theorem Qgd {A:Option Addr}{k n c size:Nat}{ad:Addr}{m c':Nat}(h:sliced A k n c size=.slice (some ad) m c'):∃ ad0,A=some ad0∧ad0.block=ad.block:=by
 unfold sliced at h
 split at h
 ·cases h;exact⟨ad,rfl,rfl⟩
 ·cases A with
  | none=>cases h
  | some a=>cases h;exact⟨a,rfl,(Qaz _ _).symm⟩
section
variable {P:Program}{t e:TypeId}{size bytes:Nat}
theorem El.elem (E:El P t e size bytes):P.elem t=e:=by
 have:=E.ht
 unfold Program.elem;rw[this]
theorem El.sizeOf (E:El P t e size bytes)(w:World):(Go.sizeOf e).run P w=.ok size w:=by
 obtain⟨i,z,hi,hz,hsi,hby,hzs⟩:=E.hi;simp[Go.sizeOf,typeInfo,hi,hsi]
theorem Jo (E:El P t e size bytes){A:Option Addr}{n c k:Nat}{w:World}(hk:k≤n) :
  (Instr.sliceAt t (.slice A n c) (some (.int .i64 (k:Int))) none none).run P w=.ok (sliced A k n c size) w:=by
 have ht:P.underlying t=some (.slice (P.elem t)):=by rw[E.elem];exact E.ht
 rw[run_sliceAt_slice w t _ _ _ _ ht,run_slice_l w t A n c ht .i64 (k:Int) (by omega) (by omega),E.elem,E.sizeOf];simp[Result.andThen]
variable {ops:Array Oper}{Q:Exit→Act→World→Prop}{a:Act}{W:World}{rest:List Oper}{o:Oper}{s lo:Operand}{n k:Nat}{v:Value}{xs:List Value}
theorem Qge (E:El P t e size bytes)(hg:o.guard=none)(hop:o.op=Op.slice t s (some lo) none none)(hs:a.eval s=v)(hlo:a.eval lo=.int .i64 (k:Int))(hsl:Sl W size v n xs)(hk:k≤n)
  (h:∀ A c,Sl W size (.slice A (n-k) c) (n-k) (xs.drop (k*size))→(∀ ad,A=some ad→∃ ad0 c0,v=.slice (some ad0) n c0∧ad0.block=ad.block)→wpList P ops Q rest (a.put o.dst (.slice A (n-k) c)) W) :
  wpList P ops Q (o :: rest) a W:=by
 obtain⟨A,c,rfl,-⟩:=id hsl;have h1:=hsl.from_ hk
 have h2:∀ ad,(if c=k then A else A.map (·.add (k*size)))=some ad→∃ ad0 c0,Value.slice A n c=.slice (some ad0) n c0∧ad0.block=ad.block:=fun ad hA=>by
  obtain⟨ad0,rfl,hb⟩:=Qgd (A:=A) (k:=k) (n:=n) (c:=c) (size:=size) (ad:=ad) (m:=n-k) (c':=c-k) (by unfold sliced;rw[hA])
  exact⟨ad0,c,rfl,hb⟩
 have h3:=h _ _ h1 h2;refine wpList_plain hg fun K' hK'=>?_
 have hrun:=Jo E (A:=A) (n:=n) (c:=c) (k:=k) (w:=W) hk;unfold Oper.wp;simp[execOp,hop,hs,hlo,hrun,Result.andThen]
 exact hK' _ _ h3
end
end
section
open Go.RowKit Go.Maps
def prD (a b:Int):DataW Unit:=.agg [.lit (.int .i64 a),.lit (.int .i64 b)]
def prR:Value→Option (DataW Unit × List MemPlace)
 | .agg ⟨[.int .i64 a,.int .i64 b]⟩=>some (prD a b,[])
 | _=>none
theorem Qh9 (a b:Int):prR (.agg #[.int .i64 a,.int .i64 b])=some (prD a b,[]):=rfl
theorem Qs0 {v:Value}{z:DataW Unit × List MemPlace}(h:prR v=some z):∃ a b,v=.agg #[.int .i64 a,.int .i64 b]∧z=(prD a b,[]):=by
 unfold prR at h
 split at h
 ·exact⟨_,_,rfl,(Option.some.inj h).symm⟩
 ·cases h
def prV (o:Option (Int × Int)):Value:=.agg #[.int .i64 (o.getD (0,0)).1,.int .i64 (o.getD (0,0)).2]
def Mp (w:World)(b n:Nat)(M:Int→Option (Int × Int)):Prop :=
 ∃ D:DataW Unit,w.ownsMap prog 3 prR b n D∧∀ x,(Lit.int .i64 x).wf=true→Maps.has D (.int .i64 x)=(M x).isSome∧∀ z,D.atKey (.int .i64 x) z=((M x).map fun p=>prD p.1 p.2).getD z
theorem Qia:Keyed prog 3:=int_keyed underlying3
theorem Qib {x:Int}(h:(Lit.int .i64 x).wf=true):keyOf prog 3 (.int .i64 x)=some (.int .i64 x):=keyOf_int_mk underlying3 h
section
variable {w w':World}{b n:Nat}{M:Int→Option (Int × Int)}
theorem Mp.lt (h:Mp w b n M):b<w.heap.size:=by obtain⟨D,h,-⟩:=h;exact h.lt
theorem Mp.same (h:Mp w b n M)(e:w'.heap[b]?=w.heap[b]?):Mp w' b n M:=by
 obtain⟨D,⟨es,clock,hb,r⟩,h2⟩:=h
 exact⟨D,⟨es,clock,e.trans hb,r⟩,h2⟩
theorem Mp.only {S:Nat→Prop}(h:Mp w b n M)(ho:Only S w w')(hb:¬ S b):Mp w' b n M:=h.same (ho.block b h.lt hb)
theorem Mp.below (h:Mp w b n M)(ho:Below w.heap.size w w'):Mp w' b n M:=h.same (ho.block b h.lt)
theorem Mp.new (w:World):Mp (w.alloc (.map #[] 0)) w.heap.size 0 (fun _=>none) :=
 ⟨.map [],World.ownsMap_made w _ _ _,fun _ _=>⟨rfl,fun _=>rfl⟩⟩
theorem Mp.cap (h:Mp w b n M):∃ es clock,w.heap[b]?=some (.map es clock):=by obtain⟨D,⟨es,clock,hb,-⟩,-⟩:=h;exact⟨es,clock,hb⟩
theorem Qs1 {v:Value}{ps:List MemPlace}{o:Option (Int × Int)}(h:prR v=some ((o.map fun p=>prD p.1 p.2).getD (prD 0 0),ps)):v=prV o:=by
 obtain⟨a,c,rfl,hz⟩:=Qs0 h;have hz:=congrArg Prod.fst hz;dsimp only at hz
 cases o with
 | none =>
  unfold prD at hz;simp at hz;obtain⟨rfl,rfl⟩:=hz
  rfl
 | some p =>
  unfold prD at hz;simp at hz;obtain⟨rfl,rfl⟩:=hz
  rfl
theorem Mp.look {t e:TypeId}(h:Mp w b n M)(ht:prog.underlying t=some (.map 3 e))(hz:(zeroValue e).run prog w=.ok (.agg #[.int .i64 0,.int .i64 0]) w){x:Int}(hx:(Lit.int .i64 x).wf=true) :
  (Instr.lookup t (.map (some b)) (.int .i64 x) true).run prog w=.ok (.tuple #[prV (M x),.bool (M x).isSome]) w:=by
 obtain⟨D,hD,hM⟩:=h;obtain⟨h1,h2⟩:=hM x hx;obtain⟨v,ps,hr,hv⟩:=hD.look_ok Qia ht hz (Qh9 0 0) (Qib hx);rw[h2] at hv;rw[hr,h1,Qs1 hv]
def Qdj (M:Int→Option (Int × Int))(x:Int)(p:Int × Int):Int→Option (Int × Int):=fun y=>if y=x then some p else M y
theorem Mp.store {t e:TypeId}(h:Mp w b n M)(ht:prog.underlying t=some (.map 3 e))(hn:n<maxLen){x a c:Int}(hx:(Lit.int .i64 x).wf=true) :
  ∃ w',(Instr.mapUpdate t (.map (some b)) (.int .i64 x) (.agg #[.int .i64 a,.int .i64 c])).run prog w=.ok () w'∧Mp w' b (n+1) (Qdj M x (a,c))∧Only (fun k=>k=b) w w'∧w'.heap.size=w.heap.size:=by
 obtain⟨D,hD,hM⟩:=h;obtain⟨w',hr,h1,h2⟩:=hD.store Qia ht hn (Qib hx) (Qh9 a c);refine⟨w',hr,⟨_,h1,fun y hy=>?_⟩,?_,?_⟩
 ·obtain⟨m1,m2⟩:=hM y hy;unfold Qdj
  by_cases e:y=x
  ·subst e;rw[if_pos rfl]
   exact⟨has_put_same hD.isMap (by trivial) _,fun z=>atKey_put_same hD.isMap (by trivial) _ z⟩
  ·rw[if_neg e];have hne:Lit.int .i64 y≠Lit.int .i64 x:=fun h=>e (by simpa using h)
   exact⟨by rw[has_put_other hne,m1],fun z=>by rw[atKey_put_other hne,m2]⟩
 ·have hg:=h2.grown
  exact⟨hg.os,hg.tape,hg.output,hg.size,fun i hi hn=>hg.block i hi (fun e=>hn (Option.some.inj e))⟩
 ·obtain⟨es,clock,es',clock',hb,rfl⟩:=h2;simp[Go.ChangeMaps.setBlock]
variable {ops:Array Oper}{rest:List Oper}{o:Oper}{a:Act}{Q:Exit→Act→World→Prop}
theorem J5 {m x:Operand}{t e:TypeId}{y:Int}(hg:o.guard=none)(hop:o.op=Op.lookup t m x true)(ht:prog.underlying t=some (.map 3 e))(hz:(zeroValue e).run prog w=.ok (.agg #[.int .i64 0,.int .i64 0]) w)
  (hm:a.eval m=.map (some b)) (hx:a.eval x=.int .i64 y) (hy:(Lit.int .i64 y).wf=true) (h:Mp w b n M) (hK:wpList prog ops Q rest (a.put o.dst (.tuple #[prV (M y),.bool (M y).isSome])) w) :
  wpList prog ops Q (o :: rest) a w:=by
 refine wpList_plain hg fun K' hK'=>?_
 have hrun:=h.look ht hz hy;unfold Oper.wp;simp[execOp,hop,hm,hx,hrun,Result.andThen]
 exact hK' _ _ hK
end
end
section
open Go.Shelf Go.RowKit
def Qfx:Go.Shelf.Ren:=⟨fun | 156=>77 | 165=>130 | 166=>19 | 169=>21 | 240=>52 | 241=>176 | 276=>93 | 277=>228 | n=>n,fun | 31=>22 | 9=>9 | 3=>3 | 4=>4 | 0=>0 | 20=>20 | 72=>56 | 76=>61 | 70=>53 | 37=>54 | 75=>24 | 127=>106 | 164=>78 | 5=>5 | 80=>63 | n=>n,fun | n=>n⟩
theorem Qnc:Go.Proofs.Lays.n156 prog Qfx:={
 mixed:=by kernel_rfl
 f156:=func77.trans (congrArg some (by kernel_rfl))
 f165:=func130.trans (congrArg some (by kernel_rfl))
 f166:=func19.trans (congrArg some (by kernel_rfl))
 f169:=func21.trans (congrArg some (by kernel_rfl))
 f240:=func52.trans (congrArg some (by kernel_rfl))
 f241:=func176.trans (congrArg some (by kernel_rfl))
 f276:=func93.trans (congrArg some (by kernel_rfl))
 f277:=func228.trans (congrArg some (by kernel_rfl))
 t0:=underlying0
 a0:=Tryz.isAgg0
 z0:=Tryz.sizeOf0
 v0:=Tryz.zeroValue0
 t3:=underlying3
 a3:=Tryz.isAgg3
 z3:=Tryz.sizeOf3
 v3:=Tryz.zeroValue3
 t4:=underlying4
 a4:=Tryz.isAgg4
 z4:=Tryz.sizeOf4
 v4:=Tryz.zeroValue4
 t9:=underlying9
 a9:=Tryz.isAgg9
 z9:=Tryz.sizeOf9
 v9:=Tryz.zeroValue9
 t20:=underlying20
 a20:=Tryz.isAgg20
 z20:=Tryz.sizeOf20
 v20:=Tryz.zeroValue20
 t31:=underlying22
 a31:=Tryz.isAgg22
 z31:=Tryz.sizeOf22
 v31:=Tryz.zeroValue22
 t37:=underlying54
 a37:=Tryz.isAgg54
 z37:=Tryz.sizeOf54
 v37:=Tryz.zeroValue54
 t70:=underlying53
 a70:=Tryz.isAgg53
 z70:=Tryz.sizeOf53
 v70:=Tryz.zeroValue53
 t72:=underlying56
 a72:=Tryz.isAgg56
 z72:=Tryz.sizeOf56
 v72:=Tryz.zeroValue56
 t75:=underlying24
 a75:=Tryz.isAgg24
 z75:=Tryz.sizeOf24
 v75:=Tryz.zeroValue24
 t76:=underlying61
 a76:=Tryz.isAgg61
 z76:=Tryz.sizeOf61
 v76:=Tryz.zeroValue61
 t127:=underlying106
 a127:=Tryz.isAgg106
 z127:=Tryz.sizeOf106
 v127:=Tryz.zeroValue106
 t164:=underlying78
 a164:=Tryz.isAgg78
 z164:=Tryz.sizeOf78
 v164:=Tryz.zeroValue78 }
theorem Qnd:Builder.Extra prog Qfx:={
 sizeBuilder:=by kernel_rfl
 liesBuilder:=by kernel_rfl
 t5:=underlying5
 a5:=Tryz.isAgg5
 z5:=Tryz.sizeOf5
 v5:=Tryz.zeroValue5
 infoByte:=by kernel_rfl
 cellsByte:=by kernel_rfl
 sizeByte:=by kernel_rfl
 neB5:=by decide }
theorem Qne (bk o c:Nat)(xs:List ByteArray)(sep:ByteArray)(w:World)(hcells:∀ (j:Nat) x,xs[j]?=some x→w.cell? ⟨bk,o+j,none⟩=some (.string x))(hbk:bk<w.heap.size)(hN:xs.length≤140737488355328)(hcap:xs.length≤c)(hlen:(Lib.join (xs.map (·.data.toList)) sep.data.toList).length≤140737488355328) :
  Calls prog 77 #[.slice (some ⟨bk,o,none⟩) xs.length c,.string sep] w fun e w'=>e=.returned (.string ⟨(Lib.join (xs.map (·.data.toList)) sep.data.toList).toArray⟩)∧Below w.heap.size w w':=Any.strings_Join Qnc Qnd bk o c xs sep w hcells hbk hN hcap hlen
def Qnf:Go.Shelf.Ren:=⟨fun | 121=>74 | 214=>129 | n=>n,fun | 4=>4 | 9=>9 | n=>n,fun | n=>n⟩
theorem Qng:Go.Proofs.Lays.n121 prog Qnf:={
 mixed:=by kernel_rfl
 f121:=func74.trans (congrArg some (by kernel_rfl))
 f214:=func129.trans (congrArg some (by kernel_rfl))
 t4:=underlying4
 a4:=Tryz.isAgg4
 z4:=Tryz.sizeOf4
 v4:=Tryz.zeroValue4
 t9:=underlying9
 a9:=Tryz.isAgg9
 z9:=Tryz.sizeOf9
 v9:=Tryz.zeroValue9 }
theorem Qnh (b:Bool)(w:World) :
  Calls prog 74 #[.bool b] w fun e w'=>e=.returned (.string ⟨(Lib.formatBool b).toArray⟩)∧w'=w:=Any.strconv_FormatBool Qng b w
def Qni:Go.Shelf.Ren:=⟨fun | 171=>54 | 243=>94 | 246=>141 | 283=>196 | 284=>197 | 285=>198 | 286=>199 | 129=>249 | 317=>248 | 318=>250 | 319=>251 | 320=>252 | 337=>290 | 338=>291 | n=>n,fun | 3=>3 | 9=>9 | 2=>2 | 4=>4 | 171=>295 | 0=>0 | 53=>40 | 37=>54 | 5=>5 | 173=>298 | 212=>361 | 51=>43 | 20=>20 | 213=>362 | 46=>47 | 232=>438 | 233=>439 | n=>n,fun | 17=>6 | 18=>7 | 19=>8 | n=>n⟩
theorem Qnj:Go.Proofs.LaysM.n171 prog Qni:={
 mixed:=by kernel_rfl
 f129:=func249.trans (congrArg some (by kernel_rfl))
 f171:=func54.trans (congrArg some (by kernel_rfl))
 f243:=func94.trans (congrArg some (by kernel_rfl))
 f246:=func141.trans (congrArg some (by kernel_rfl))
 f283:=func196.trans (congrArg some (by kernel_rfl))
 f284:=func197.trans (congrArg some (by kernel_rfl))
 f285:=func198.trans (congrArg some (by kernel_rfl))
 f286:=func199.trans (congrArg some (by kernel_rfl))
 f317:=func248.trans (congrArg some (by kernel_rfl))
 f318:=func250.trans (congrArg some (by kernel_rfl))
 f319:=func251.trans (congrArg some (by kernel_rfl))
 f320:=func252.trans (congrArg some (by kernel_rfl))
 f337:=func290.trans (congrArg some (by kernel_rfl))
 f338:=func291.trans (congrArg some (by kernel_rfl))
 t0:=underlying0
 a0:=Tryz.isAgg0
 z0:=Tryz.sizeOf0
 v0:=Tryz.zeroValue0
 t2:=underlying2
 a2:=Tryz.isAgg2
 z2:=Tryz.sizeOf2
 v2:=Tryz.zeroValue2
 t3:=underlying3
 a3:=Tryz.isAgg3
 z3:=Tryz.sizeOf3
 v3:=Tryz.zeroValue3
 t4:=underlying4
 a4:=Tryz.isAgg4
 z4:=Tryz.sizeOf4
 v4:=Tryz.zeroValue4
 t5:=underlying5
 a5:=Tryz.isAgg5
 z5:=Tryz.sizeOf5
 v5:=Tryz.zeroValue5
 t9:=underlying9
 a9:=Tryz.isAgg9
 z9:=Tryz.sizeOf9
 v9:=Tryz.zeroValue9
 t20:=underlying20
 a20:=Tryz.isAgg20
 z20:=Tryz.sizeOf20
 v20:=Tryz.zeroValue20
 t37:=underlying54
 a37:=Tryz.isAgg54
 z37:=Tryz.sizeOf54
 v37:=Tryz.zeroValue54
 t46:=underlying47
 a46:=Tryz.isAgg47
 z46:=Tryz.sizeOf47
 v46:=Tryz.zeroValue47
 t51:=underlying43
 a51:=Tryz.isAgg43
 z51:=Tryz.sizeOf43
 v51:=Tryz.zeroValue43
 t53:=underlying40
 a53:=Tryz.isAgg40
 z53:=Tryz.sizeOf40
 v53:=Tryz.zeroValue40
 t171:=underlying295
 a171:=Tryz.isAgg295
 z171:=Tryz.sizeOf295
 v171:=Tryz.zeroValue295
 t173:=underlying298
 a173:=Tryz.isAgg298
 z173:=Tryz.sizeOf298
 v173:=Tryz.zeroValue298
 t212:=underlying361
 a212:=Tryz.isAgg361
 z212:=Tryz.sizeOf361
 v212:=Tryz.zeroValue361
 t213:=underlying362
 a213:=Tryz.isAgg362
 z213:=Tryz.sizeOf362
 t232:=underlying438
 a232:=Tryz.isAgg438
 z232:=Tryz.sizeOf438
 v232:=Tryz.zeroValue438
 t233:=underlying439
 a233:=Tryz.isAgg439
 z233:=Tryz.sizeOf439
 v233:=Tryz.zeroValue439
 g17:=by kernel_rfl
 g18:=by kernel_rfl
 g19:=by kernel_rfl
 i0:=by kernel_rfl
 i2:=by kernel_rfl
 i3:=by kernel_rfl
 i4:=by kernel_rfl
 i5:=by kernel_rfl
 i9:=by kernel_rfl
 i20:=by kernel_rfl
 i37:=by kernel_rfl
 i46:=by kernel_rfl
 i51:=by kernel_rfl
 i53:=by kernel_rfl
 i171:=by kernel_rfl
 i173:=by kernel_rfl
 i212:=by kernel_rfl
 i232:=by kernel_rfl
 i233:=by kernel_rfl
 m17:=by kernel_rfl
 m18:=by kernel_rfl
 m19:=by kernel_rfl }
open Go.RowKit Go.Sort Go.Lib in
theorem Qnk (n : Int) (h0 : -9223372036854775808 ≤ n) (h1 : n ≤ 9223372036854775807) (w : World) (htab : Lib.TabIs Tryz.prog w "internal/strconv.uint64pow10" .u64 Lib.pow10Tab) :
    Calls Tryz.prog 54 #[.int .i64 n] w fun e w' => e = .returned (.string ⟨(Lib.itoa n).toArray⟩) ∧ ∃ k os, w' = grow (w.drewN k) os := Any.strconv_Itoa Qnj n h0 h1 w htab
def Qnl:Go.Shelf.Ren:=⟨fun | 172=>83 | 244=>131 | 245=>132 | 247=>164 | 279=>177 | 280=>178 | 281=>179 | 282=>180 | 287=>220 | 316=>229 | 171=>54 | 205=>230 | 321=>280 | 322=>281 | 243=>94 | 246=>141 | 283=>196 | 284=>197 | 285=>198 | 286=>199 | 129=>249 | 317=>248 | 318=>250 | 319=>251 | 320=>252 | 337=>290 | 338=>291 | n=>n,fun | 9=>9 | 3=>3 | 75=>24 | 76=>61 | 4=>4 | 5=>5 | 167=>264 | 37=>54 | 0=>0 | 85=>186 | 2=>2 | 168=>265 | 53=>40 | 175=>316 | 46=>47 | 210=>323 | 127=>106 | 145=>399 | 143=>397 | 21=>21 | 171=>295 | 173=>298 | 212=>361 | 51=>43 | 20=>20 | 213=>362 | 232=>438 | 233=>439 | 80=>63 | n=>n,fun | 15=>4 | 16=>5 | 17=>6 | 18=>7 | 19=>8 | n=>n⟩
theorem Qch:Go.Proofs.LaysC.n172 prog Qnl:={
 mixed:=by kernel_rfl
 f129:=func249.trans (congrArg some (by kernel_rfl))
 f171:=func54.trans (congrArg some (by kernel_rfl))
 f172:=func83.trans (congrArg some (by kernel_rfl))
 f205:=func230.trans (congrArg some (by kernel_rfl))
 f243:=func94.trans (congrArg some (by kernel_rfl))
 f244:=func131.trans (congrArg some (by kernel_rfl))
 f245:=func132.trans (congrArg some (by kernel_rfl))
 f246:=func141.trans (congrArg some (by kernel_rfl))
 f247:=func164.trans (congrArg some (by kernel_rfl))
 f279:=func177.trans (congrArg some (by kernel_rfl))
 f280:=func178.trans (congrArg some (by kernel_rfl))
 f281:=func179.trans (congrArg some (by kernel_rfl))
 f282:=func180.trans (congrArg some (by kernel_rfl))
 f283:=func196.trans (congrArg some (by kernel_rfl))
 f284:=func197.trans (congrArg some (by kernel_rfl))
 f285:=func198.trans (congrArg some (by kernel_rfl))
 f286:=func199.trans (congrArg some (by kernel_rfl))
 f287:=func220.trans (congrArg some (by kernel_rfl))
 f316:=func229.trans (congrArg some (by kernel_rfl))
 f317:=func248.trans (congrArg some (by kernel_rfl))
 f318:=func250.trans (congrArg some (by kernel_rfl))
 f319:=func251.trans (congrArg some (by kernel_rfl))
 f320:=func252.trans (congrArg some (by kernel_rfl))
 f321:=func280.trans (congrArg some (by kernel_rfl))
 f322:=func281.trans (congrArg some (by kernel_rfl))
 f337:=func290.trans (congrArg some (by kernel_rfl))
 f338:=func291.trans (congrArg some (by kernel_rfl))
 t0:=underlying0
 a0:=Tryz.isAgg0
 z0:=Tryz.sizeOf0
 v0:=Tryz.zeroValue0
 t2:=underlying2
 a2:=Tryz.isAgg2
 z2:=Tryz.sizeOf2
 v2:=Tryz.zeroValue2
 t3:=underlying3
 a3:=Tryz.isAgg3
 z3:=Tryz.sizeOf3
 v3:=Tryz.zeroValue3
 t4:=underlying4
 a4:=Tryz.isAgg4
 z4:=Tryz.sizeOf4
 v4:=Tryz.zeroValue4
 t5:=underlying5
 a5:=Tryz.isAgg5
 z5:=Tryz.sizeOf5
 v5:=Tryz.zeroValue5
 t9:=underlying9
 a9:=Tryz.isAgg9
 z9:=Tryz.sizeOf9
 v9:=Tryz.zeroValue9
 t20:=underlying20
 a20:=Tryz.isAgg20
 z20:=Tryz.sizeOf20
 v20:=Tryz.zeroValue20
 t21:=underlying21
 a21:=Tryz.isAgg21
 z21:=Tryz.sizeOf21
 v21:=Tryz.zeroValue21
 t37:=underlying54
 a37:=Tryz.isAgg54
 z37:=Tryz.sizeOf54
 v37:=Tryz.zeroValue54
 t46:=underlying47
 a46:=Tryz.isAgg47
 z46:=Tryz.sizeOf47
 v46:=Tryz.zeroValue47
 t51:=underlying43
 a51:=Tryz.isAgg43
 z51:=Tryz.sizeOf43
 v51:=Tryz.zeroValue43
 t53:=underlying40
 a53:=Tryz.isAgg40
 z53:=Tryz.sizeOf40
 v53:=Tryz.zeroValue40
 t75:=underlying24
 a75:=Tryz.isAgg24
 z75:=Tryz.sizeOf24
 v75:=Tryz.zeroValue24
 t76:=underlying61
 a76:=Tryz.isAgg61
 z76:=Tryz.sizeOf61
 v76:=Tryz.zeroValue61
 t85:=underlying186
 a85:=Tryz.isAgg186
 z85:=Tryz.sizeOf186
 v85:=Tryz.zeroValue186
 t127:=underlying106
 a127:=Tryz.isAgg106
 z127:=Tryz.sizeOf106
 v127:=Tryz.zeroValue106
 t143:=underlying397
 a143:=Tryz.isAgg397
 z143:=Tryz.sizeOf397
 v143:=Tryz.zeroValue397
 t145:=underlying399
 a145:=Tryz.isAgg399
 z145:=Tryz.sizeOf399
 v145:=Tryz.zeroValue399
 t167:=underlying264
 a167:=Tryz.isAgg264
 z167:=Tryz.sizeOf264
 v167:=Tryz.zeroValue264
 t168:=underlying265
 a168:=Tryz.isAgg265
 z168:=Tryz.sizeOf265
 v168:=Tryz.zeroValue265
 t171:=underlying295
 a171:=Tryz.isAgg295
 z171:=Tryz.sizeOf295
 v171:=Tryz.zeroValue295
 t173:=underlying298
 a173:=Tryz.isAgg298
 z173:=Tryz.sizeOf298
 v173:=Tryz.zeroValue298
 t175:=underlying316
 a175:=Tryz.isAgg316
 z175:=Tryz.sizeOf316
 v175:=Tryz.zeroValue316
 t210:=underlying323
 a210:=Tryz.isAgg323
 z210:=Tryz.sizeOf323
 v210:=Tryz.zeroValue323
 t212:=underlying361
 a212:=Tryz.isAgg361
 z212:=Tryz.sizeOf361
 v212:=Tryz.zeroValue361
 t213:=underlying362
 a213:=Tryz.isAgg362
 z213:=Tryz.sizeOf362
 t232:=underlying438
 a232:=Tryz.isAgg438
 z232:=Tryz.sizeOf438
 v232:=Tryz.zeroValue438
 t233:=underlying439
 a233:=Tryz.isAgg439
 z233:=Tryz.sizeOf439
 v233:=Tryz.zeroValue439
 g15:=by kernel_rfl
 g16:=by kernel_rfl
 g17:=by kernel_rfl
 g18:=by kernel_rfl
 g19:=by kernel_rfl
 t80:=underlying63
 a80:=Tryz.isAgg63
 z80:=Tryz.sizeOf63
 v80:=Tryz.zeroValue63
 i0:=by kernel_rfl
 i2:=by kernel_rfl
 i3:=by kernel_rfl
 i4:=by kernel_rfl
 i5:=by kernel_rfl
 i9:=by kernel_rfl
 i20:=by kernel_rfl
 i21:=by kernel_rfl
 i37:=by kernel_rfl
 i46:=by kernel_rfl
 i51:=by kernel_rfl
 i53:=by kernel_rfl
 i75:=by kernel_rfl
 i76:=by kernel_rfl
 i80:=by kernel_rfl
 i85:=by kernel_rfl
 i127:=by kernel_rfl
 i143:=by kernel_rfl
 i145:=by kernel_rfl
 i167:=by kernel_rfl
 i168:=by kernel_rfl
 i171:=by kernel_rfl
 i173:=by kernel_rfl
 i175:=by kernel_rfl
 i210:=by kernel_rfl
 i212:=by kernel_rfl
 i232:=by kernel_rfl
 i233:=by kernel_rfl
 m15:=by kernel_rfl
 m16:=by kernel_rfl
 m17:=by kernel_rfl
 m18:=by kernel_rfl
 m19:=by kernel_rfl
 c0:=by kernel_rfl
 c2:=by kernel_rfl
 c3:=by kernel_rfl
 c4:=by kernel_rfl
 c5:=by kernel_rfl
 c9:=by kernel_rfl
 c20:=by kernel_rfl
 c21:=by kernel_rfl
 c37:=by kernel_rfl
 c46:=by kernel_rfl
 c51:=by kernel_rfl
 c53:=by kernel_rfl
 c75:=by kernel_rfl
 c76:=by kernel_rfl
 c80:=by kernel_rfl
 c85:=by kernel_rfl
 c127:=by kernel_rfl
 c143:=by kernel_rfl
 c145:=by kernel_rfl
 c167:=by kernel_rfl
 c168:=by kernel_rfl
 c171:=by kernel_rfl
 c173:=by kernel_rfl
 c175:=by kernel_rfl
 c210:=by kernel_rfl
 c212:=by kernel_rfl
 c213:=by kernel_rfl
 c232:=by kernel_rfl
 c233:=by kernel_rfl }
theorem Qnm (s:ByteArray)(hmax:s.size≤9223372036854775806)(v:Int)(h:Lib.atoiAll s.data.toList=.ok v)(w:World) :
  Calls prog 83 #[.string s] w fun e w'=>e=.returned (.tuple #[.int .i64 v,.nilIface])∧(w'=w∨∃ t,w'=Lib.bytesWorld w 5 t):=Any.strconv_Atoi_ok Qch s hmax v h w
def Qnn:Go.Shelf.Ren:=⟨fun | 143=>91 | 219=>140 | 217=>168 | 225=>193 | 224=>194 | 267=>195 | 266=>223 | 314=>247 | n=>n,fun | 9=>9 | 3=>3 | 4=>4 | 5=>5 | 46=>47 | 146=>358 | 51=>43 | n=>n,fun | 1=>3 | n=>n⟩
theorem Qno:Go.Proofs.Lays.n143 prog Qnn:={
 mixed:=by kernel_rfl
 f143:=func91.trans (congrArg some (by kernel_rfl))
 f217:=func168.trans (congrArg some (by kernel_rfl))
 f219:=func140.trans (congrArg some (by kernel_rfl))
 f224:=func194.trans (congrArg some (by kernel_rfl))
 f225:=func193.trans (congrArg some (by kernel_rfl))
 f266:=func223.trans (congrArg some (by kernel_rfl))
 f267:=func195.trans (congrArg some (by kernel_rfl))
 f314:=func247.trans (congrArg some (by kernel_rfl))
 t3:=underlying3
 a3:=Tryz.isAgg3
 z3:=Tryz.sizeOf3
 v3:=Tryz.zeroValue3
 t4:=underlying4
 a4:=Tryz.isAgg4
 z4:=Tryz.sizeOf4
 v4:=Tryz.zeroValue4
 t5:=underlying5
 a5:=Tryz.isAgg5
 z5:=Tryz.sizeOf5
 v5:=Tryz.zeroValue5
 t9:=underlying9
 a9:=Tryz.isAgg9
 z9:=Tryz.sizeOf9
 v9:=Tryz.zeroValue9
 t46:=underlying47
 a46:=Tryz.isAgg47
 z46:=Tryz.sizeOf47
 v46:=Tryz.zeroValue47
 t51:=underlying43
 a51:=Tryz.isAgg43
 z51:=Tryz.sizeOf43
 v51:=Tryz.zeroValue43
 t146:=underlying358
 a146:=Tryz.isAgg358
 z146:=Tryz.sizeOf358
 v146:=Tryz.zeroValue358
 g1:=by kernel_rfl }
open Go.RowKit Go.Lib in
theorem Qfy (s:ByteArray)(c:UInt8)(w:World) :
  Calls prog 91 #[.string s,.string ⟨#[c]⟩] w fun e w'=>e=.returned (.int .i64 (Lib.indexByte s.data.toList c))∧w'=w:=Any.strings_Index_one Qno s c w
def Qnp:Go.Shelf.Ren:=⟨fun | 102=>18 | 209=>51 | 207=>92 | n=>n,fun | 9=>9 | 4=>4 | 3=>3 | n=>n,fun | n=>n⟩
theorem Qnq:Go.Proofs.Lays.n102 prog Qnp:={
 mixed:=by kernel_rfl
 f102:=func18.trans (congrArg some (by kernel_rfl))
 f207:=func92.trans (congrArg some (by kernel_rfl))
 f209:=func51.trans (congrArg some (by kernel_rfl))
 t3:=underlying3
 a3:=Tryz.isAgg3
 z3:=Tryz.sizeOf3
 v3:=Tryz.zeroValue3
 t4:=underlying4
 a4:=Tryz.isAgg4
 z4:=Tryz.sizeOf4
 v4:=Tryz.zeroValue4
 t9:=underlying9
 a9:=Tryz.isAgg9
 z9:=Tryz.sizeOf9
 v9:=Tryz.zeroValue9 }
open Go.RowKit Go.Lib in
theorem Qnr (s p:ByteArray)(w:World)(hs:s.size≤9223372036854775807) :
  Calls prog 18 #[.string s,.string p] w fun e w'=>e=.returned (.string ⟨(Lib.trimSuffix s.data.toList p.data.toList).toArray⟩)∧w'=w:=Any.strings_TrimSuffix Qnq s p w hs
def Qns:Go.Shelf.Ren:=⟨fun | 229=>55 | n=>n,fun | 9=>9 | 40=>104 | 31=>22 | 152=>175 | 3=>3 | 0=>0 | 4=>4 | 21=>21 | 154=>177 | n=>n,fun | n=>n⟩
theorem Qnt:Go.Proofs.Lays.n229 prog Qns:={
 mixed:=by kernel_rfl
 f229:=func55.trans (congrArg some (by kernel_rfl))
 t0:=underlying0
 a0:=Tryz.isAgg0
 z0:=Tryz.sizeOf0
 v0:=Tryz.zeroValue0
 t3:=underlying3
 a3:=Tryz.isAgg3
 z3:=Tryz.sizeOf3
 v3:=Tryz.zeroValue3
 t4:=underlying4
 a4:=Tryz.isAgg4
 z4:=Tryz.sizeOf4
 v4:=Tryz.zeroValue4
 t9:=underlying9
 a9:=Tryz.isAgg9
 z9:=Tryz.sizeOf9
 v9:=Tryz.zeroValue9
 t21:=underlying21
 a21:=Tryz.isAgg21
 z21:=Tryz.sizeOf21
 v21:=Tryz.zeroValue21
 t31:=underlying22
 a31:=Tryz.isAgg22
 z31:=Tryz.sizeOf22
 v31:=Tryz.zeroValue22
 t40:=underlying104
 a40:=Tryz.isAgg104
 z40:=Tryz.sizeOf104
 v40:=Tryz.zeroValue104
 t152:=underlying175
 a152:=Tryz.isAgg175
 z152:=Tryz.sizeOf175
 v152:=Tryz.zeroValue175
 t154:=underlying177
 a154:=Tryz.isAgg177
 z154:=Tryz.sizeOf177
 v154:=Tryz.zeroValue177 }
open Go.RowKit Go.Lib in
theorem Qnu (g:Nat)(lb:Array Value)(eg:∀ args w,(callFunc g args).run prog w=.ok (.enter g args) w)(p:Nat→Bool)(s:ByteArray)(w:World)(hs:s.size≤4294967296)(hp:PredGrows prog g lb p w) :
  Calls prog 55 #[.string s,.func (.func g) #[] lb] w fun e w'=>∃ A,e=.returned (.slice (some ⟨A,0,none⟩) (Lib.goFieldsP p s).length (Lib.goFieldsP p s).length)∧w.heap.size≤A ∧
   w'.ownsRow w.heap.size 9 1 (.slice (some ⟨A,0,none⟩) (Lib.goFieldsP p s).length (Lib.goFieldsP p s).length) (Lib.goFieldsP p s).length ((Lib.goFieldsP p s).map Value.string)∧Below w.heap.size w w':=Any.strings_FieldsFunc_grows Qnt g lb eg p s w hs hp (by kernel_rfl) (by kernel_rfl)
end
section
open Go.ChangeShapes Go.WideShapes Go.ChangeAt Go.RowKit
section
variable {H:Type}{enc:TypeId × Value→H}{P:Program}
theorem Qpp {f:Func}{s:ChangeSpec}{apart fresh handsOn again:Bool}{W W':World}{args:Array Value}{v:Value}{ds gs:List (DataW H)}{before pa pv:List MemPlace}
  (hW:DataW.Whole enc P f.params.toList s.vars apart W args.toList ds gs before)
  (hres:∀ (b:Nat) (sp:Nat→Bool) (hd:Bool),DataW.TrodAll enc P W' b sp hd f.resultTypes.toList (v.resultList f.resultTypes.size) (s.fn H (ds++gs)).results [])
  (hargs:∀ sp:Nat→Bool,(∀ p∈before,sp p.block=true)→DataW.TrodAll enc P W' 0 sp true f.params.toList args.toList (s.fn H (ds++gs)).args pa)
  (hvars:∀ sp:Nat→Bool,(∀ p∈before,sp p.block=true)→DataW.TrodVars enc P W' sp s.vars (s.fn H (ds++gs)).vars pv)
  (hps:before=pa++pv) (hb:Below W.heap.size W W')
  (hok:∀ (j:Nat) (t:TypeId) (r:Value),f.resultTypes[j]?=some t→(v.resultList f.resultTypes.size)[j]?=some r→Value.okWide P W' .any 0 t r) :
  s.post enc P f apart fresh handsOn again W args v W':=by
 have hlt:∀ p∈before,p.block<W.heap.size:=fun p hp=>hW.lt p hp
 have hold:∀ p∈before,(fun b=>decide (b<W.heap.size)) p.block=true:=fun p hp=>by simpa using hlt p hp
 refine⟨ds,gs,before,[],pa,pv,hW,hres _ _ _,hargs _ hold,hvars _ hold,World.keptBut_mono (fun p hp=>⟨hp,?_⟩) (hb.frame (·∈before)),fun _=>?_⟩
 ·rw[hps,List.mem_append] at hp;exact Or.inr hp
 ·obtain⟨_,_,_,_,_,hz,hn⟩:=hW;refine⟨hok,_,_,([]++pa)++pv,⟨[]++pa,pv,trodAll_append (hargs _ (fun _ _=>rfl)) (hres _ _ _),hvars _ (fun _ _=>rfl),rfl,?_,?_⟩,?_⟩
  ·intro b off hp;have hin:MemPlace.cell b off∈before:=by rw[hps];simpa using hp
   rw[hb.frozen (hlt _ hin)];exact hz b off hin
  ·intro ha
   have:=hn ha
   rw[hps] at this;simpa using this
  ·intro p hp _;rw[hps];simpa using hp
theorem Qpq (hl:laidOutB P=true){ts:List TypeId}(hr:∀ t∈ts,P.readableRec t=true∧t<P.types.size){W W':World}(hb:Below W.heap.size W W'){sp':Nat→Bool}{vs:List Value}{ds:List (DataW H)}{ps:List MemPlace}
  (h:DataW.TrodAll enc P W 0 (fun _=>true) true ts vs ds ps) (hlt:∀ p∈ps,p.block<W.heap.size) (hs:∀ p∈ps,sp' p.block=true):DataW.TrodAll enc P W' 0 sp' true ts vs ds ps:=by
 induction ts generalizing vs ds ps with
 | nil =>
  obtain⟨rfl,rfl,rfl⟩:=trodAll_nil h;exact trodAll_mk0
 | cons t ts ih =>
  obtain⟨v,vs',d,ds',p,q,rfl,rfl,rfl,hd,hrest⟩:=trodAll_cons h;refine trodAll_cons_mk ?_ (ih (fun u hu=>hr u (List.mem_cons_of_mem _ hu)) hrest (fun x hx=>hlt x (List.mem_append_right _ hx)) (fun x hx=>hs x (List.mem_append_right _ hx)));obtain⟨h1,h2⟩:=hr t List.mem_cons_self;exact WideElems.Trod_stays hl h1 h2 hd (fun x hx=>hb.same (hlt x (List.mem_append_left _ hx))) (fun x hx=>hs x (List.mem_append_left _ hx))
theorem law_post {f:Func}{s:ChangeSpec}{apart fresh handsOn again:Bool}{W W':World}{args:Array Value}{ds:List (DataW H)}{before:List MemPlace}{tb:TypeId}
  (hl:laidOutB P=true) (hr:∀ t∈f.params.toList,P.readableRec t=true∧t<P.types.size) (hv:s.vars=[]) (hres:f.resultTypes=#[tb]) (hb1:P.underlying tb=some .bool)
  (hW:DataW.Whole enc P f.params.toList s.vars apart W args.toList ds [] before)
  (hs:s.fn H (ds++[])={ results:=[.lit (.bool true)],args:=ds }) (hb:Below W.heap.size W W') :
  s.post enc P f apart fresh handsOn again W args (.bool true) W':=by
 have hW0:=hW;obtain⟨p,q,hA,hV,hpq,hfz,hnd⟩:=hW0;rw[hv] at hV;obtain⟨_,rfl⟩:=trodVars_none hV;simp only[List.append_nil] at hpq;subst hpq;refine Qpp (pa:=before) (pv:=[]) hW ?_ ?_ ?_ (by simp) hb ?_
 ·intro b sp hd;rw[hs,hres];exact trodAll_mk1 (shut_bool hb1 true)
 ·intro sp hsp;rw[hs];exact Qpq hl hr hb hA (fun x hx=>hW.lt x hx) hsp
 ·intro sp hsp;rw[hs,hv]
  rfl
 ·exact ok_one hres rfl (okWide_bool_mk hb1 true)
end
end
section
open Go.RowKit
theorem Qtt {a:Assume}{C:Checked}{os:Os}{f:FuncId}{r:Reach}{Pre:World→Array Value→Prop}{Post:World→Array Value→Value→World→Prop}
  (own:ownKnob C.prog.godebug=none) (started:os.Started) (noInit:C.prog.inits.idxOf? f=none)
  (witness:∃ (w:World) (tape:Tape) (i:Input),w.os=os∧(w.forCall tape i).Shaped C.prog∧i.vars=[]∧Input.okWide C.prog (w.forCall tape i) r w.heap.size f i∧Pre (w.forCall tape i).memory i.args ∧
   a.holds C.prog (lone (Frame.enter C.prog f i.args .normal) [] (w.forCall tape i)))
  (contract:∀ (w:World) (tape:Tape) (i:Input),w.os=os→(w.forCall tape i).ShapedOpen C.prog→i.vars=[]→Input.okWide C.prog (w.forCall tape i) r w.heap.size f i→Pre (w.forCall tape i).memory i.args →
   a.holds C.prog (lone (Frame.enter C.prog f i.args .normal) [] (w.forCall tape i)) →
   Calls C.prog f i.args (w.forCall tape i) fun
    | .returned v,w'=>Post (w.forCall tape i).blind i.args v w'.blind
    | _,_=>False):ReturnsInLeavingWide a C os f r Pre Post:=by
 refine returnsInLeavingWide_of_good own started witness ?_;intro w tape i h1 h2 h3 h4 h5 h6;obtain⟨n,v,w',fr,hn,hend,hp⟩:=(contract w tape i h1 h2 h3 h4 h5 h6).done_lone noInit
 exact⟨n,lone fr [] w',.done v,w',(runNT C.prog (n+1) (lone (Frame.enter C.prog f i.args .normal) [] (w.forCall tape i)) #[]).2,Prod.ext (by rw[runNT_fst];exact hend) rfl,hn,step_of_runs hn hend,
  v,rfl,hp,fun said=>(no_race_of_lone (said:=said) C.prog n _ _ hn (by simp[lone]) rfl).2,handedOver_of_lone hn,⟨by simp[lone],rfl⟩,(alone_of_lone (w':=w') hn).2.2⟩
section
variable {H:Type}{enc:TypeId × Value→H}
theorem returnsInLeaving_of_change {a:Assume}{C:Checked}{os:Os}{f:FuncId}{fn:Func}{s:ChangeSpec}{F:Stop.Interp}{conds:List PathCond}{apart fresh handsOn:Bool}{X:World→Array Value→Prop}
  (hX:∀ (w w':World) (args:Array Value),w.heap=w'.heap→X w args→X w' args)
  (own:ownKnob C.prog.godebug=none) (started:os.Started) (noInit:C.prog.inits.idxOf? f=none) (hfn:C.prog.funcs[f]?=some fn)
  (witness:∃ (w:World) (tape:Tape) (i:Input),w.os=os∧(w.forCall tape i).Shaped C.prog∧i.vars=[]∧Input.okWide C.prog (w.forCall tape i) .any w.heap.size f i ∧
   ((s.pre enc C.prog fn conds apart (w.forCall tape i).memory i.args∧X (w.forCall tape i).memory i.args)∧sizedMet enc C.prog fn (OpenSpec.ofChange s) apart (w.forCall tape i).memory i.args)∧a.holds C.prog (lone (Frame.enter C.prog f i.args .normal) [] (w.forCall tape i)))
  (contract:∀ (W:World) (base:Nat) (args:Array Value) (ds gs:List (DataW H)) (before:List MemPlace),W.ShapedOpen C.prog →
   (∀ (j:Nat) t v,fn.params[j]?=some t→args[j]?=some v→Value.okWide C.prog W .any base t v) →
   DataW.Whole enc C.prog fn.params.toList s.vars apart W args.toList ds gs before →
   conds.all (PathCond.test C.prog ⟨fn.params.toList,ds,s.plain.varTypes C.prog,gs⟩)=true →
   (DataW.weightsEach C.prog (fn.params.toList++s.plain.varTypes C.prog) (ds++gs)).all (·≤reachBytes)=true→X W args →
   Calls C.prog f args W fun e W'=>∃ v,e=.returned v∧s.post enc C.prog fn apart fresh handsOn false W args v W'∧W'.os=W.os) :
  ReturnsInLeavingWide a C os f .any (fun w args=>(s.pre enc C.prog fn conds apart w args∧X w args)∧sizedMet enc C.prog fn (OpenSpec.ofChange s) apart w args) ((OpenSpec.ofChange s).postWith enc C.prog fn F (outsideKept [.timePasses]) apart fresh handsOn):=by
 refine Qtt own started noInit witness ?_;intro w tape i _ hsh _ hok hpre _;obtain⟨_,_,_,fn',hfn',_,_,_,_,hval⟩:=hok;have e:fn'=fn:=Option.some.inj (hfn'.symm.trans hfn);subst e;obtain⟨⟨⟨ds,gs,before,hw,hc⟩,hx⟩,hz⟩:=hpre;have hw':=DataW.Whole.of_heap (w':=w.forCall tape i) (by rfl) hw;refine (contract (w.forCall tape i) w.heap.size i.args ds gs before hsh hval hw' hc (hz.weights hw) (hX _ _ _ (by rfl) hx)).mono fun e W' ⟨v,he,hp,hos⟩=>?_
 subst he;have e2:({ W' with os:=(w.forCall tape i).os }:World)=W':=by rw[← hos]
 exact postWith_blind (postWith_of_post (by rw[e2];exact hp) (by rw[hos];exact Go.ConcM.OsLater.refl _))
theorem ChangeSpec.witness_calm {C:Checked}{os:Os}{f:FuncId}{fn:Func}{s:ChangeSpec}{conds:List PathCond}{apart:Bool}{X:World→Array Value→Prop}(w0:World)(args:Array Value)(fuel:Nat)(hos:w0.os=os)
  (hsh:(w0.forCall (fun _ _=>0) ⟨#[],args,[]⟩).Shaped C.prog)
  (hok:Input.okWideB C.prog (w0.forCall (fun _ _=>0) ⟨#[],args,[]⟩) f ⟨#[],args,[]⟩=true)
  (hpre:s.preB enc C.prog fn conds apart (w0.forCall (fun _ _=>0) ⟨#[],args,[]⟩).memory args fuel=true)
  (hsz:s.sizedB enc C.prog fn apart (w0.forCall (fun _ _=>0) ⟨#[],args,[]⟩).memory args fuel=true)
  (hx:X (w0.forCall (fun _ _=>0) ⟨#[],args,[]⟩).memory args) :
  ∃ (w:World) (tape:Tape) (i:Input),w.os=os∧(w.forCall tape i).Shaped C.prog∧i.vars=[]∧Input.okWide C.prog (w.forCall tape i) .any w.heap.size f i ∧
   ((s.pre enc C.prog fn conds apart (w.forCall tape i).memory i.args∧X (w.forCall tape i).memory i.args)∧sizedMet enc C.prog fn (OpenSpec.ofChange s) apart (w.forCall tape i).memory i.args)∧({ calm:=true }:Assume).holds C.prog (lone (Frame.enter C.prog f i.args .normal) [] (w.forCall tape i)) :=
 ⟨w0,fun _ _=>0,⟨#[],args,[]⟩,hos,hsh,(Input.okWide_of_okWideB (base:=0) hok).1,(Input.okWide_of_okWideB hok).2,⟨⟨ChangeSpec.pre_of_preB hpre,hx⟩,sizedMet_of_sizedB hsz⟩,by
  simp only[Assume.holds]
  exact⟨by simp,fun _ _ _ _=>rfl,by simp,by simp,by simp⟩⟩
end
end
section
theorem Q8 {a b:Bool}(ha:a=true)(hb:b=true):(a && b)=true:=by rw[ha,hb];rfl
theorem Qqq:(Rows.deskPiecesRow.wf (OpenSpec.ofChange Rows.deskPiecesSpec))=true:=by kernel_rfl
theorem Qqr:(laidOutB Tryz.pinned.checked.prog)=true:=by kernel_rfl
theorem Qqs:(mapsRowed Tryz.pinned.checked.prog)=true:=by kernel_rfl
theorem Qqt:(Tryz.f5.params.all (Tryz.pinned.checked.prog.readableRec ·))=true:=by kernel_rfl
theorem Qqu:(namedTie Tryz.pinned.checked.prog Rows.deskPiecesRow.named Rows.deskPiecesSpec.vars)=true:=by kernel_rfl
theorem Qqv:((Rows.deskPiecesRow.stops == []))=true:=by kernel_rfl
theorem Qqw:((Tryz.pinned.checked.prog.stops == []))=true:=by kernel_rfl
theorem Qqx:((Rows.deskPiecesRow.knobs == []))=true:=by kernel_rfl
theorem Qqy:((Tryz.pinned.checked.prog.stopKnobs == []))=true:=by kernel_rfl
theorem Qqz:((Rows.deskPiecesRow.inPlace == Tryz.pinned.checked.prog.inPlace 5))=true:=by kernel_rfl
theorem Qq0:((Rows.deskPiecesRow.unfollowed == Tryz.pinned.checked.prog.unfollowed 5))=true:=by kernel_rfl
theorem Qq1:((Rows.deskPiecesRow.recurses == Tryz.pinned.checked.prog.recurses 5))=true:=by kernel_rfl
theorem Qq2:((Rows.deskPiecesRow.named == Tryz.pinned.checked.prog.varsNamed 5))=true:=by kernel_rfl
theorem Qq3:((Rows.deskPiecesRow.maps == (Tryz.f5.params.toList++Rows.deskPiecesSpec.plain.varTypes Tryz.pinned.checked.prog).any (Tryz.pinned.checked.prog.mapsRec ·)))=true:=by kernel_rfl
theorem Qq4:((Rows.deskPiecesRow.ifaces == (Tryz.f5.params.toList++Rows.deskPiecesSpec.plain.varTypes Tryz.pinned.checked.prog).any (Tryz.pinned.checked.prog.ifacesRec ·)))=true:=by kernel_rfl
theorem Qq5:((Rows.deskPiecesRow.mapsOut == Tryz.pinned.checked.prog.mapsAmong Tryz.f5.resultTypes.toList))=true:=by kernel_rfl
theorem Qq6:((Rows.deskPiecesRow.loops == (Tryz.f5.params.toList++Rows.deskPiecesSpec.plain.varTypes Tryz.pinned.checked.prog).any (Tryz.pinned.checked.prog.loopsFrom ·)))=true:=by kernel_rfl
theorem Qq7:((Rows.deskPiecesRow.wideKeys == (Tryz.f5.params.toList++Rows.deskPiecesSpec.plain.varTypes Tryz.pinned.checked.prog++Tryz.f5.resultTypes.toList).any (Tryz.pinned.checked.prog.wideKeysFrom ·)))=true:=by kernel_rfl
theorem Qq8:(Rows.deskPiecesSpec.vars.all (Tryz.pinned.checked.prog.varReadable ·))=true:=by kernel_rfl
theorem Qq9:(Tryz.f5.resultTypes.all (fun t=>Tryz.pinned.checked.prog.readableRec t && decide (t<Tryz.pinned.checked.prog.types.size)))=true:=by kernel_rfl
theorem Qra:((Rows.deskPiecesRow.ifacesOut == Tryz.f5.resultTypes.toList.any (Tryz.pinned.checked.prog.ifacesRec ·)))=true:=by kernel_rfl
theorem Qrb:((Rows.deskPiecesRow.loopsOut == Tryz.f5.resultTypes.toList.any (Tryz.pinned.checked.prog.loopsFrom ·)))=true:=by kernel_rfl
theorem Qrc:((Rows.deskPiecesRow.plainKeys == Tryz.pinned.checked.prog.plainKeys))=true:=by kernel_rfl
theorem Qrd:(Rows.deskPiecesRow.shortTexts.isNone)=true:=by kernel_rfl
theorem Qre:(Tryz.pinned.checked.prog.stopsHeard)=true:=by kernel_rfl
theorem Qrf:(Tryz.pinned.checked.prog.mayEnter)=true:=by kernel_rfl
theorem Qrg:((Rows.deskPiecesRow.lifted == Tryz.pinned.checked.prog.liftsFinal))=true:=by kernel_rfl
theorem Qrh:((Tryz.pinned.checked.prog.make == some Rows.deskPiecesRow.make))=true:=by kernel_rfl
theorem Qri:((Rows.deskPiecesRow.kinds == (if Rows.deskPiecesRow.domain.isEmpty then [] else Tryz.f5.params.toList.map fun t=>match Tryz.pinned.checked.prog.underlying t with | some (.int k)=>some k | _=>none)))=true:=by kernel_rfl
theorem Qrj:((Rows.deskPiecesRow.pinned == Rows.deskPiecesRow.pinnedBy))=true:=by kernel_rfl
theorem Qrk:((Rows.deskPiecesRow.veiled == (Tryz.f5.params.toList++Rows.deskPiecesSpec.plain.varTypes Tryz.pinned.checked.prog++Tryz.f5.resultTypes.toList).any (Tryz.pinned.checked.prog.veiledRec ·)))=true:=by kernel_rfl
theorem Qrl:(Rows.deskPiecesRow.veiledFits Tryz.pinned.checked.prog Tryz.f5.params.toList (Tryz.f5.params.toList++Rows.deskPiecesSpec.plain.varTypes Tryz.pinned.checked.prog++Tryz.f5.resultTypes.toList))=true:=by kernel_rfl
theorem deskPieces_closed:joinedFacts Tryz.pinned.checked.prog 5 Tryz.f5 Rows.deskPiecesSpec Rows.deskPiecesRow=true :=
 (Q8 (Q8 (Q8 (Q8 (Q8 (Q8 (Q8 (Q8 (Q8 (Q8 (Q8 (Q8 (Q8 (Q8 (Q8 (Q8 (Q8 (Q8 (Q8 (Q8 (Q8 (Q8 (Q8 (Q8 (Q8 (Q8 (Q8 (Q8 (Q8 (Q8 (Q8 Qqq Qqr) Qqs) Qqt) Qqu) Qqv) Qqw) Qqx) Qqy) Qqz) Qq0) Qq1) Qq2) Qq3) Qq4) Qq5) Qq6) Qq7) Qq8) Qq9) Qra) Qrb) Qrc) Qrd) Qre) Qrf) Qrg) Qrh) Qri) Qrj) Qrk) Qrl)
end
end Go.Proofs.YtckkgdmkfbkaoaaGreatDoor
