/- Texts of the proof. -/
import Derived.Test.YtckkgdmkfbkaoaaGreatDoorM13
import Derived.Deep.LoopGhost
import Derived.BigRegion
namespace Go.Proofs.YtckkgdmkfbkaoaaGreatDoor
open Go.Proofs.Tryz
set_option maxRecDepth 100000
set_option maxHeartbeats 32000000
set_option linter.all false
section
open Go.RowKit
attribute [local go_sem] Cn.v_eq XP
end
section
open Go.RowKit
structure AtR (w:World)(p:Nat)(t:RT):Prop where
 blk:Blk w p 272 #[t.ptr]
 tree:AtT w t
 out:p ∉ t.blocks
theorem AtR.below {w w':World}{p:Nat}{t:RT}(h:AtR w p t)(hb:Below w.heap.size w w'):AtR w' p t:=⟨h.blk.below hb h.blk.lt,h.tree.below hb,h.out⟩
structure Good (t:RT):Prop where
 nodup:t.blocks.Nodup
 ne:Ne t.chunks
 le:∀ c∈t.chunks,bl c≤32
 all:U.AllR t.runes
 bal:t.Bal
 sz:bl t.runes≤8000
theorem Qfd {cs:List (List Int)}(h:Ne cs):cs.length≤cs.flatten.length:=by
 induction cs with
 | nil=>simp
 | cons c cs ih =>
  have:=ih h.tl
  have:=Wax.2 h.hd
  simp only[Wan,List.flatten_cons,Wad];omega
attribute [local go_sem] Cn.v_eq XP ZB
end
section
open Go.RowKit
attribute [local go_sem] Cn.v_eq
theorem YB {p:Nat}{t:RT}{w:World}(h:AtR w p t) :
  Calls prog 209 #[.pointer (some ⟨p,0,none⟩)] w fun e w'=>e=.returned (cnt t.runes).v∧Below w.heap.size w w':=by
 have HT:=Hm h.tree;have c0:=h.blk.cell 0;have lt:=h.blk.lt;simp only[Wab,Waa,RT.ptr] at c0;clear h;go_enter func209,ntmps209
 go_wp2_with (go_at_call 261;refine (X8 (t:=t) (HT.o.below (Qb (Wac _ _) _))).mono ?_;rintro e w1 ⟨rfl,hb⟩;generalize hcc:cnt t.runes=c;have HCC:=Hm hcc;clear hcc;have hc:Qg w1 w.heap.size Cn.zero:=Qg.below (Wbc w _) hb (by simp);obtain⟨q0,q1,q2,q3⟩:=hc.cells;have qf:=hc.frozen;have ql:=hc.lt;have HC:=Hm hc;have HB:=Hm hb;clear hb hc)
 refine HC.o.set4 (F:=fun W=>bodyPost _ _ _ Exit.ret _ W) (y:=c) ?_;intro w3 hC3 hB3 hs3 hf3;obtain⟨g0,g1,g2,g3⟩:=hC3.cells;refine Waz (v:=c.v) (by simp[results,results209,go_sem,g0,g1,g2,g3]) rfl ?_
 exact⟨by rw[HCC.o],((Qb (Wac _ _) _).trans (HB.o.mono (by simp))).trans (hB3 _ (Wak _))⟩
attribute [local go_sem] XP ZB
theorem byte_at {s:U.Bs}{j:Nat}(h:j<s.length)(hh):(ByteArray.mk s.toArray)[j]'hh=s.getD j 0:=by
 have:(ByteArray.mk s.toArray)[j]'hh=s[j]:=rfl
 rw[this];simp[h]
end
end Go.Proofs.YtckkgdmkfbkaoaaGreatDoor
