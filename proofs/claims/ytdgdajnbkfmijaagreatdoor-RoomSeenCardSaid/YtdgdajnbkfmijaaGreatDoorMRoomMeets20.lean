/- Several texts of the proof, one behind the other: Err, RefR. -/
import Derived.Test.YtdgdajnbkfmijaaGreatDoorMRoomMeets17
import Derived.Test.YtdgdajnbkfmijaaGreatDoorMRoomMeets1
import Derived.Deep.QuietTactic
import Derived.BigQuiet
import Derived.Test.YtdgdajnbkfmijaaGreatDoorMRoomMeets15
import Derived.Test.YtdgdajnbkfmijaaGreatDoorMRoomMeets6
/- Errors taken apart: api.Tell, plain.Place, and the laws' own is and bare. -/
namespace Go.Proofs.YtdgdajnbkfmijaaGreatDoor
open Go.RowKit
set_option maxRecDepth 100000
theorem asW_cell {w : World} {t : Addr} {e : Int} {old : Value} (h : w.cell? t = some old) : (asW w t e).cell? t = some (.int .i64 e) := by
  unfold asW
  have hl := World.block_lt_of_cell? w t h
  refine World.cell?_setCell_same _ _ _ (u := old) ?_
  rw [World.cell?_alloc_lt _ _ t (by simp; omega), World.cell?_alloc_lt _ _ t (by simp; omega), World.cell?_alloc_lt _ _ t (by simp; omega), World.cell?_alloc_lt _ _ t hl]
  exact h
theorem asW_below {w0 w : World} {t : Addr} {e : Int} (h : Below w0.heap.size w0 w) (ht : w0.heap.size ≤ t.block) : Below w0.heap.size w0 (asW w t e) := by
  unfold asW
  exact (ex_alloc (ex_alloc (ex_alloc (ex_alloc h _) _) _) _).setCell ht _
set_option maxHeartbeats 1000000 in
theorem tell_nil (w : World) : Calls Tryz.prog 53 #[.nilIface] w fun ev w' => ev = .returned (.int .i64 0) ∧ Below w.heap.size w w' := by
  go_enter Tryz.func53, Tryz.ntmps53
  go_wp2_with fail
  go_ret
  exact ⟨rfl, Below.refl _ _⟩
set_option maxHeartbeats 1000000 in
theorem tell_no (e : Int) (w : World) (hg : Hdl w) : Calls Tryz.prog 53 #[.iface 29 (.int .i64 e)] w fun ev w' => ev = .returned (.int .i64 e) ∧ Below w.heap.size w w' := by
  have HG := Hd.mk hg
  clear hg
  go_enter Tryz.func53, Tryz.ntmps53
  go_wp2_with fail
  have hn : (w.alloc (.cells #[.int .i64 0] 29)).cell? ⟨w.heap.size, 0, none⟩ = some (.int .i64 0) := by simp
  have hc := asW_cell (e := e) hn
  have hbl : Below w.heap.size w (asW (w.alloc (.cells #[.int .i64 0] 29)) ⟨w.heap.size, 0, none⟩ e) := asW_below (ex_alloc (Below.refl _ _) _) (Nat.le_refl _)
  refine (as_hit e ⟨w.heap.size, 0, none⟩ (.int .i64 0) _ (HG.out.below (ex_alloc (Below.refl _ _) _)) hn (by simp)).mono ?_
  rintro ev w' ⟨rfl, rfl⟩
  generalize asW (w.alloc (.cells #[.int .i64 0] 29)) ⟨w.heap.size, 0, none⟩ e = w1 at hc hbl ⊢
  clear hn
  go_wp2_with fail
  go_ret
  exact ⟨rfl, hbl⟩
set_option maxHeartbeats 1000000 in
theorem tell_at (g : Nat) (e p : Int) (w : World) (hg : Hdl w) (hat : AtBlk w g e p) : Calls Tryz.prog 53 #[atV g] w fun ev w' => ev = .returned (.int .i64 e) ∧ Below w.heap.size w w' := by
  have HG := Hd.mk hg
  have HA := Hd.mk hat
  clear hg hat
  go_enter Tryz.func53, Tryz.ntmps53
  go_wp2_with fail
  have hn : (w.alloc (.cells #[.int .i64 0] 29)).cell? ⟨w.heap.size, 0, none⟩ = some (.int .i64 0) := by simp
  have hc := asW_cell (e := e) hn
  have hbl : Below w.heap.size w (asW (w.alloc (.cells #[.int .i64 0] 29)) ⟨w.heap.size, 0, none⟩ e) := asW_below (ex_alloc (Below.refl _ _) _) (Nat.le_refl _)
  refine (as_at g e p ⟨w.heap.size, 0, none⟩ (.int .i64 0) _ (HG.out.below (ex_alloc (Below.refl _ _) _)) (HA.out.below (ex_alloc (Below.refl _ _) _)) hn (by simp)).mono ?_
  rintro ev w' ⟨rfl, rfl⟩
  generalize asW (w.alloc (.cells #[.int .i64 0] 29)) ⟨w.heap.size, 0, none⟩ e = w1 at hc hbl ⊢
  clear hn
  go_wp2_with fail
  go_ret
  exact ⟨rfl, hbl⟩
/-- An error that the program makes: none, an Errno, an *api.At; its Errno and its place (-1: none). -/
inductive ErrV (w : World) : Value → Int → Int → Prop
  | nil : ErrV w .nilIface 0 (-1)
  | no (e : Int) : ErrV w (.iface 29 (.int .i64 e)) e (-1)
  | at_ (g : Nat) (e p : Int) (h : AtBlk w g e p) : ErrV w (atV g) e p
theorem ErrV.below {w w' : World} {v : Value} {e p : Int} (h : ErrV w v e p) (hb : Below w.heap.size w w') : ErrV w' v e p := by
  cases h with
  | nil => exact .nil
  | no => exact .no _
  | at_ g _ _ h => exact .at_ g _ _ (h.below hb)
theorem tell_calls {v : Value} {e p : Int} {w : World} (h : ErrV w v e p) (hg : Hdl w) : Calls Tryz.prog 53 #[v] w fun ev w' => ev = .returned (.int .i64 e) ∧ Below w.heap.size w w' := by
  cases h with
  | nil => exact tell_nil w
  | no e => exact tell_no e w hg
  | at_ g e p h => exact tell_at g e p w hg h
end Go.Proofs.YtdgdajnbkfmijaaGreatDoor
/- The reference's Runes. -/
namespace Go.Proofs.YtdgdajnbkfmijaaGreatDoor
open Go.RowKit
set_option maxRecDepth 100000
theorem own_below {w w' : World} {base : Nat} {e : TypeId} {size : Nat} {v : Value} {n : Nat} {xs : List Value} (h : w.ownsRow base e size v n xs) (hb : Below w.heap.size w w') : w'.ownsRow base e size v n xs := by
  rcases h with ⟨h1, h | ⟨g, cap, cur, h2, h3, hg, h4⟩⟩
  · exact ⟨h1, .inl h⟩
  · exact ⟨h1, .inr ⟨g, cap, cur, h2, h3, (hb.block g (Array.getElem?_eq_some_iff.1 hg).1).trans hg, h4⟩⟩
section
attribute [local go_sem] ext_drop
end
end Go.Proofs.YtdgdajnbkfmijaaGreatDoor
