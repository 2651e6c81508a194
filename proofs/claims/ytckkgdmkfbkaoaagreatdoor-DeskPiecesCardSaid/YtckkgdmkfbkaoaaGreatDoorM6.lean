/- Texts of the proof. -/
import Derived.Test.YtckkgdmkfbkaoaaGreatDoorM5
namespace Go.Proofs.YtckkgdmkfbkaoaaGreatDoor
open Go.Proofs.Tryz
set_option maxRecDepth 100000
set_option maxHeartbeats 32000000
set_option linter.all false
open Go.RowKit Go.Shelf
section
variable {P:Program}{w:World}
theorem Qtn (base:Nat)(t u ty e:TypeId)(i:TypeInfo)(ht:P.underlying t=some (.slice e))(hu:P.underlying u=some .string)(hi:P.info? e=some i)(hz:i.zero=some (.int .u8 0))
  (hsize:i.size=1) (hby:i.bytes=1) (v:Value) (n:Nat) (xs:List Value) (hown:w.ownsRowF base e 1 v n xs) (s:ByteArray) (h63:n+s.size≤maxLen) (hbytes:n+s.size≤140737488355328)
  {v':Value} {w':World} (hrun:(Builtin.append_ #[t,u] ty #[v,.string s]).run P w=.ok v' w'):∀ k,v'.ownBlock=some k→v.ownBlock=some k∨w.heap.size≤k:=by
 intro k hk;rcases hown.2 with ⟨rfl,rfl⟩ | ⟨g,cap,cur,fz,rfl,hbg,hg,hfz,hnc,hcm,hcs,htake⟩
 ·obtain⟨v2,w2,h1,h2,-⟩:=Lib.run_append_own_stringF (P:=P) w w.heap.size t u ty e i ht hu hi hz hsize hby (.slice none 0 0) 0 xs ⟨hown.1,.inl ⟨rfl,rfl⟩⟩ s h63 hbytes (Nat.le_refl _);rw[h1] at hrun
  cases hrun
  exact .inr ((h2.lt k hk).2 |> fun _=>by
   rcases h2.2 with ⟨e,-⟩ | ⟨g,cap,cur,fz,e,hb,-⟩
   ·rw[e] at hk;cases hk
   ·rw[e] at hk;cases hk;exact hb)
 ·have hxl:xs.length=n:=by simpa using hown.1
  by_cases hroom:n+s.size≤cap
  ·have hcs':cur.size=cap:=by simpa using hcs
   have hr:=Lib.run_append_room_stringF (P:=P) w t u ty e i ht hu hi hsize g n cap cur fz hg (by simpa using hfz) s hroom (by omega);rw[hr] at hrun
   cases hrun
   exact .inl hk
  ·have holds:∀ j u,xs[j]?=some u→w.cell? ((⟨g,0,none⟩:Addr).add j)=some u:=hown.cells (g:=g) rfl;have hr:=Lib.run_append_grow_string (P:=P) w t u ty e i (.int .u8 0) ht hu hi hz ⟨g,0,none⟩ n cap xs (by rw[hsize];simpa using hxl) holds s (by omega) (by omega) (by rw[hby];exact growslice_fits (by omega) (by omega));rw[hr] at hrun
   cases hrun
   cases hk
   exact .inr (Nat.le_refl _)
theorem Qto {ops:Array Oper}{rest:List Oper}{o:Oper}{a:Act}{Q:Exit→Act→World→Prop}(hgd:o.guard=none)(sl x:Operand)(t u:TypeId)
  (ho:o.op=.call { callee:=.builtin .append,args:=#[sl,x],argTypes:=#[t,u] })
  (base:Nat) (e:TypeId) (i:TypeInfo) (ht:P.underlying t=some (.slice e)) (hu:P.underlying u=some .string) (hi:P.info? e=some i) (hz:i.zero=some (.int .u8 0))
  (hsize:i.size=1) (hby:i.bytes=1)
  (v:Value) (n:Nat) (xs:List Value) (hs:a.eval sl=v) (hown:w.ownsRowF base e 1 v n xs) (s:ByteArray) (hx:a.eval x=.string s)
  (h63:n+s.size≤maxLen) (hbytes:n+s.size≤140737488355328) (hbase:base≤w.heap.size)
  (h:∀ v' w',w'.ownsRowF base e 1 v' (n+s.size) (xs++Lib.strCells s)→w.grownBy w' v.ownBlock→(∀ k,v'.ownBlock=some k→v.ownBlock=some k∨w.heap.size≤k)→wpList P ops Q rest (a.put o.dst v') w'):wpList P ops Q (o :: rest) a w:=by
 refine wpList_plain hgd fun K hK=>?_
 obtain⟨v',w',hr,h2,h3,h4⟩:=Lib.run_append_own_stringF (P:=P) w base t u o.type e i ht hu hi hz hsize hby v n xs hown s h63 hbytes hbase;unfold Oper.wp execOp;simp only[ho,resolve,invoke,builtin,Sem.run_bind,Sem.run_pure,Result.andThen_ok,List.map_toArray,List.map_cons,List.map_nil,hs,hx,hr];exact hK _ _ (h v' w' h2 h3 (Qtn base t u o.type e i ht hu hi hz hsize hby v n xs hown s h63 hbytes hr))
end
structure BuV (w:World)(B b:Nat)(bs:List Value)(v:Value):Prop where
 lo:B≤b
 bk:∃ p,(p=.pointer none∨p=.pointer (some ⟨b,0,none⟩))∧w.heap[b]?=some (.cells #[p,v] 56 (0,0))
 own:w.ownsRowF B 5 1 v bs.length bs
 ne:v.ownBlock≠some b
theorem BuV.lt {w:World}{B b:Nat}{bs:List Value}{v:Value}(h:BuV w B b bs v):b<w.heap.size:=by
 obtain⟨p,-,hb⟩:=h.bk;exact (Array.getElem?_eq_some_iff.1 hb).1
theorem BuV.is {w:World}{B b:Nat}{bs:List Value}{v:Value}(h:BuV w B b bs v):Lib.IsBuilderF 56 5 B b bs w:=by
 obtain⟨h1,⟨p,hp,hb⟩,h2,h3⟩:=h;rcases hp with rfl | rfl
 ·exact .inl ⟨h1,v,hb,h2,h3⟩
 ·exact .inr ⟨h1,v,hb,h2,h3⟩
theorem Qdn {S:Nat→Prop}{w w':World}{base:Nat}{e:TypeId}{size:Nat}{v:Value}{n:Nat}{xs:List Value}(h:w.ownsRowF base e size v n xs)(ho:Only S w w')(hg:∀ k,v.ownBlock=some k→¬ S k):w'.ownsRowF base e size v n xs:=by
 rcases h with ⟨h1,h | ⟨g,cap,cur,fz,rfl,h3,hb,h4⟩⟩
 ·exact⟨h1,.inl h⟩
 ·exact⟨h1,.inr ⟨g,cap,cur,fz,rfl,h3,(ho.block g (Array.getElem?_eq_some_iff.1 hb).1 (hg g rfl)).trans hb,h4⟩⟩
theorem BuV.only {S:Nat→Prop}{w w':World}{B b:Nat}{bs:List Value}{v:Value}(h:BuV w B b bs v)(ho:Only S w w')(hb:¬ S b)(hv:∀ k,v.ownBlock=some k→¬ S k):BuV w' B b bs v:=by
 obtain⟨p,hp,hk⟩:=h.bk
 exact⟨h.lo,⟨p,hp,(ho.block b h.lt hb).trans hk⟩,Qdn h.own ho hv,h.ne⟩
theorem BuV.row {w:World}{B b:Nat}{bs:List Value}{v:Value}(h:BuV w B b bs v):∀ k,v.ownBlock=some k→B≤k∧k<w.heap.size:=by
 intro k hk;rcases h.own.2 with ⟨e,-⟩ | ⟨g,cap,cur,fz,e,hb,hg,-⟩
 ·rw[e] at hk;cases hk
 ·rw[e] at hk;cases hk;exact⟨hb,(Array.getElem?_eq_some_iff.1 hg).1⟩
theorem Qtp (w:World):BuV (w.alloc (.cells #[.pointer none,.slice none 0 0] 56)) w.heap.size w.heap.size [] (.slice none 0 0) :=
 ⟨Nat.le_refl _,⟨_,.inl rfl,Blk.new _ _ _⟩,World.ownsRowF_of (World.ownsRow_nil _ _ _ _),by simp[Value.ownBlock]⟩
def Qtq (B b:Nat)(bs:List Value)(v:Value)(s:ByteArray)(w:World)(e:Ending)(w':World):Prop :=
 e=.returned (.tuple #[.int .i64 s.size,.nilIface])∧∃ v',BuV w' B b (bs++Lib.strCells s) v'∧Only (fun j=>j=b∨v.ownBlock=some j) w w'∧∀ k,v'.ownBlock=some k→v.ownBlock=some k∨w.heap.size≤k
theorem Qtr {B b:Nat}{bs:List Value}{v:Value}{w:World}(h:BuV w B b bs v):Calls prog 52 #[.pointer (some ⟨b,0,none⟩)] w fun e w'=>e=.returned (.tuple #[])∧BuV w' B b bs v∧w'.heap[b]?=some (.cells #[.pointer (some ⟨b,0,none⟩),v] 56 (0,0))∧Only (fun j=>j=b) w w'∧w'.heap.size=w.heap.size:=by
 obtain⟨p,hp,hk⟩:=h.bk;have c0:w.cell? ⟨b,0,none⟩=some p:=by rw[Lib.cell_of_heap hk];rfl
 rcases hp with rfl | rfl
 ·have hB:Lib.BuilderAtF 56 5 B b (.pointer none) bs w:=⟨h.lo,v,hk,h.own,h.ne⟩;refine (Qg6 b w hB.cell0 hB.shape hB.frozen0).mono ?_;rintro e w' ⟨rfl,rfl⟩;have ho:Only (fun j=>j=b) w (w.setCell ⟨b,0,none⟩ (.pointer (some ⟨b,0,none⟩))):=(Only.refl (fun j=>j=b) w).setCell (p:=⟨b,0,none⟩) (.inl rfl) _;have hk2:(w.setCell ⟨b,0,none⟩ (.pointer (some ⟨b,0,none⟩))).heap[b]?=some (.cells #[.pointer (some ⟨b,0,none⟩),v] 56 (0,0)):=(show Blk w b 56 #[.pointer none,v] from hk).set_ 0 _
  exact⟨rfl,⟨h.lo,⟨_,.inr rfl,hk2⟩,Qdn h.own ho (fun k e1 e2=>h.ne (by rw[e1,e2])),h.ne⟩,hk2,ho,by simp⟩
 ·refine (Qg5 b w c0).mono ?_;rintro e w' ⟨rfl,rfl⟩
  exact⟨rfl,h,hk,Only.refl _ _,rfl⟩
theorem Qts {B b:Nat}{bs:List Value}{v:Value}{s:ByteArray}{w:World}(h:BuV w B b bs v)(hlen:bs.length+s.size≤140737488355328)(hBw:B≤w.heap.size) :
  Calls prog 19 #[.pointer (some ⟨b,0,none⟩),.string s] w (Qtq B b bs v s w):=by
 obtain⟨i0,hi,hz0,hz1,hz2⟩:=info_parts XU.infoByte;go_enter func19,ntmps19
 go_wp2_with (go_at_call 52;refine (Qtr h).mono ?_)
 rintro e w1 ⟨rfl,h1,hbk,ho1,hs1⟩;have c0:w1.cell? ⟨b,0,none⟩=some (.pointer (some ⟨b,0,none⟩)):=by rw[Lib.cell_of_heap hbk];rfl
 have c1:w1.cell? ⟨b,1,none⟩=some v:=by rw[Lib.cell_of_heap hbk];rfl
 have hlt:=h1.lt;go_wp2_with (at_builtin;refine Qto rfl _ _ 54 9 rfl B 5 i0 underlying54 underlying9 hi hz0 hz1 hz2 _ _ _ rfl h1.own s rfl ?c3 ?c4 ?c5 ?_)
 case c3=>unfold maxLen;omega
 case c4=>omega
 case c5=>omega
 intro v' w2 hown' hgrow hat
 have hb2:w2.heap[b]?=some (.cells #[.pointer (some ⟨b,0,none⟩),v] 56 (0,0)):=by
  rw[hgrow.block b hlt (fun e=>h1.ne e.symm)];exact hbk
 have d0:w2.cell? ⟨b,0,none⟩=some (.pointer (some ⟨b,0,none⟩)):=by rw[Lib.cell_of_heap hb2];rfl
 have d1:w2.cell? ⟨b,1,none⟩=some v:=by rw[Lib.cell_of_heap hb2];rfl
 have f1:w2.frozen? ⟨b,1,none⟩=false:=Lib.frozen_of_heap hb2 1;have h2lt:b<w2.heap.size:=Nat.lt_of_lt_of_le hlt hgrow.size
 obtain⟨ao,n',cap,rfl⟩:∃ ao n' cap,v'=.slice ao n' cap:=by
  rcases hown'.2 with ⟨hv,_⟩ | ⟨g,cap,cur,fz,hv,_⟩
  ·exact⟨_,_,_,hv⟩
  ·exact⟨_,_,_,hv⟩
 go_wp2
 go_ret2;have hne:(Value.slice ao n' cap).ownBlock≠some b:=fun e=>(hat b e).elim (fun e=>h1.ne e) (fun e=>by omega)
 have ho3:Only (fun j=>j=b∨v.ownBlock=some j) w1 w2:=⟨hgrow.os,hgrow.tape,hgrow.output,hgrow.size,fun k hk hs=>hgrow.block k hk (fun e=>hs (.inr e.symm))⟩;have ho4:=((ho1.mono (fun j _ e=>.inl e)).trans ho3).setCell (p:=⟨b,1,none⟩) (.inl (.inl rfl)) (.slice ao n' cap);have hb3:(w2.setCell ⟨b,1,none⟩ (.slice ao n' cap)).heap[b]?=some (.cells #[.pointer (some ⟨b,0,none⟩),.slice ao n' cap] 56 (0,0)):=(show Blk w2 b 56 #[.pointer (some ⟨b,0,none⟩),v] from hb2).set_ 1 _;have ho5:Only (fun j=>j=b) w2 (w2.setCell ⟨b,1,none⟩ (.slice ao n' cap)):=(Only.refl (fun j=>j=b) w2).setCell (p:=⟨b,1,none⟩) (.inl rfl) _;refine⟨rfl,_,⟨h.lo,⟨_,.inr rfl,hb3⟩,?_,hne⟩,ho4,fun k hk=>(hat k hk).imp_right (fun e=>by omega)⟩;rw[List.length_append,Lib.strCells_length];exact Qdn hown' ho5 (fun k e1 e2=>hne (by rw[e1,e2]))
end Go.Proofs.YtckkgdmkfbkaoaaGreatDoor
