/- Texts of the proof. -/
import Derived.Test.YtckkgdmkfbkaoaaGreatDoorM23
import Derived.Test.YtckkgdmkfbkaoaaGreatDoorM13
namespace Go.Proofs.YtckkgdmkfbkaoaaGreatDoor
open Go.Proofs.Tryz
set_option maxRecDepth 100000
set_option maxHeartbeats 32000000
set_option linter.all false
section
open Go.RowKit
theorem Qff {w:World}{t:Addr}{e:Int}{old:Value}(h:w.cell? t=some old):(asW w t e).cell? t=some (.int .i64 e):=by
 unfold asW;have hl:=World.block_lt_of_cell? w t h;refine World.cell?_setCell_same _ _ _ (u:=old) ?_
 rw[Wbj _ _ t (by simp;omega),Wbj _ _ t (by simp;omega),Wbj _ _ t (by simp;omega),Wbj _ _ t hl];exact h
theorem Qfg {w0 w:World}{t:Addr}{e:Int}(h:Below w0.heap.size w0 w)(ht:w0.heap.size≤t.block):Below w0.heap.size w0 (asW w t e):=by
 unfold asW;exact (Qb (Qb (Qb (Qb h _) _) _) _).setCell ht _
theorem Qmw (w:World):Calls prog 88 #[.nilIface] w fun ev w'=>ev=.returned (.int .i64 0)∧Below w.heap.size w w':=by
 go_enter func88,ntmps88
 go_wp2_with fail;go_ret
 exact⟨rfl,Wac _ _⟩
theorem Qfh (e:Int)(w:World)(hg:Hdl w):Calls prog 88 #[.iface 31 (.int .i64 e)] w fun ev w'=>ev=.returned (.int .i64 e)∧Below w.heap.size w w':=by
 have HG:=Hm hg;clear hg;go_enter func88,ntmps88
 go_wp2_with fail;have hn:(w.alloc (.cells #[.int .i64 0] 31)).cell? ⟨w.heap.size,0,none⟩=some (.int .i64 0):=by simp
 have hc:=Qff (e:=e) hn;have hbl:Below w.heap.size w (asW (w.alloc (.cells #[.int .i64 0] 31)) ⟨w.heap.size,0,none⟩ e):=Qfg (Qb (Wac _ _) _) (Wak _);refine (Qol e ⟨w.heap.size,0,none⟩ (.int .i64 0) _ (HG.o.below (Qb (Wac _ _) _)) hn (by simp)).mono ?_;rintro ev w' ⟨rfl,rfl⟩;generalize asW (w.alloc (.cells #[.int .i64 0] 31)) ⟨w.heap.size,0,none⟩ e=w1 at hc hbl ⊢;clear hn;go_wp2_with fail;go_ret
 exact⟨rfl,hbl⟩
theorem Qfi (g:Nat)(e p:Int)(w:World)(hg:Hdl w)(hat:QU w g e p):Calls prog 88 #[atV g] w fun ev w'=>ev=.returned (.int .i64 e)∧Below w.heap.size w w':=by
 have HG:=Hm hg;have HA:=Hm hat
 clear hg hat
 go_enter func88,ntmps88
 go_wp2_with fail;have hn:(w.alloc (.cells #[.int .i64 0] 31)).cell? ⟨w.heap.size,0,none⟩=some (.int .i64 0):=by simp
 have hc:=Qff (e:=e) hn;have hbl:Below w.heap.size w (asW (w.alloc (.cells #[.int .i64 0] 31)) ⟨w.heap.size,0,none⟩ e):=Qfg (Qb (Wac _ _) _) (Wak _);refine (Qop g e p ⟨w.heap.size,0,none⟩ (.int .i64 0) _ (HG.o.below (Qb (Wac _ _) _)) (HA.o.below (Qb (Wac _ _) _)) hn (by simp)).mono ?_;rintro ev w' ⟨rfl,rfl⟩;generalize asW (w.alloc (.cells #[.int .i64 0] 31)) ⟨w.heap.size,0,none⟩ e=w1 at hc hbl ⊢;clear hn;go_wp2_with fail;go_ret
 exact⟨rfl,hbl⟩
inductive ErrV (w:World):Value→Int→Int→Prop
 | nil:ErrV w .nilIface 0 (-1)
 | no (e:Int):ErrV w (.iface 31 (.int .i64 e)) e (-1)
 | at_ (g:Nat) (e p:Int) (h:QU w g e p):ErrV w (atV g) e p
theorem ErrV.below {w w':World}{v:Value}{e p:Int}(h:ErrV w v e p)(hb:Below w.heap.size w w'):ErrV w' v e p:=by
 cases h with
 | nil=>exact .nil
 | no=>exact .no _
 | at_ g _ _ h=>exact .at_ g _ _ (h.below hb)
theorem X5 {v:Value}{e p:Int}{w:World}(h:ErrV w v e p)(hg:Hdl w):Calls prog 88 #[v] w fun ev w'=>ev=.returned (.int .i64 e)∧Below w.heap.size w w':=by
 cases h with
 | nil=>exact Qmw w
 | no e=>exact Qfh e w hg
 | at_ g e p h=>exact Qfi g e p w hg h
end
section
open Go.RowKit
section
attribute [local go_sem] YY
end
end
section
open Go.RowKit
theorem own_below {w w':World}{base:Nat}{e:TypeId}{size:Nat}{v:Value}{n:Nat}{xs:List Value}(h:w.ownsRow base e size v n xs)(hb:Below w.heap.size w w'):w'.ownsRow base e size v n xs:=by
 rcases h with ⟨h1,h | ⟨g,cap,cur,h2,h3,hg,h4⟩⟩
 ·exact⟨h1,.inl h⟩
 ·exact⟨h1,.inr ⟨g,cap,cur,h2,h3,(hb.block g (Wbm.1 hg).1).trans hg,h4⟩⟩
section
attribute [local go_sem] Xf
end
end
end Go.Proofs.YtckkgdmkfbkaoaaGreatDoor
