/- Errors taken apart: api.Tell, plain.Place, and the laws' own is and bare. -/
import Derived.Test.YthbhhnfhjppbdaaDoorAsW
import Derived.Test.YthbhhnfhjppbdaaDoorExt
import Derived.Deep.QuietTactic
import Derived.BigQuiet
namespace Go.Proofs.YthbhhnfhjppbdaaDoor
open Go.RowKit
set_option maxRecDepth 100000
theorem asW_cell {w : World} {t : Addr} {e : Int} {old : Value} (h : w.cell? t = some old) : (asW w t e).cell? t = some (.int .i64 e) := by
  unfold asW
  have hl := World.block_lt_of_cell? w t h
  refine World.cell?_setCell_same _ _ _ (u := old) ?_
  rw [World.cell?_alloc_lt _ _ t (by simp; omega), World.cell?_alloc_lt _ _ t (by simp; omega), World.cell?_alloc_lt _ _ t (by simp; omega), World.cell?_alloc_lt _ _ t hl]
  exact h
theorem asW_below {w0 w : World} {t : Addr} {e : Int} (h : Below w0.heap.size w0 w) (ht : w0.heap.size ≤ t.block) : Below w0.heap.size w0 (asW w t e) := by
  unfold asW
  exact (ex_alloc (ex_alloc (ex_alloc (ex_alloc h _) _) _) _).setCell ht _
set_option maxHeartbeats 1000000 in
theorem tell_nil (w : World) : Calls Tryd.prog 85 #[.nilIface] w fun ev w' => ev = .returned (.int .i64 0) ∧ Below w.heap.size w w' := by
  go_enter Tryd.func85, Tryd.ntmps85
  go_wp2_with fail
  go_ret
  exact ⟨rfl, Below.refl _ _⟩
set_option maxHeartbeats 1000000 in
theorem tell_no (e : Int) (w : World) (hg : Hdl w) : Calls Tryd.prog 85 #[.iface 25 (.int .i64 e)] w fun ev w' => ev = .returned (.int .i64 e) ∧ Below w.heap.size w w' := by
  have HG := Hd.mk hg
  clear hg
  go_enter Tryd.func85, Tryd.ntmps85
  go_wp2_with fail
  have hn : (w.alloc (.cells #[.int .i64 0] 25)).cell? ⟨w.heap.size, 0, none⟩ = some (.int .i64 0) := by simp
  have hc := asW_cell (e := e) hn
  have hbl : Below w.heap.size w (asW (w.alloc (.cells #[.int .i64 0] 25)) ⟨w.heap.size, 0, none⟩ e) := asW_below (ex_alloc (Below.refl _ _) _) (Nat.le_refl _)
  refine (as_hit e ⟨w.heap.size, 0, none⟩ (.int .i64 0) _ (HG.out.below (ex_alloc (Below.refl _ _) _)) hn (by simp)).mono ?_
  rintro ev w' ⟨rfl, rfl⟩
  generalize asW (w.alloc (.cells #[.int .i64 0] 25)) ⟨w.heap.size, 0, none⟩ e = w1 at hc hbl ⊢
  clear hn
  go_wp2_with fail
  go_ret
  exact ⟨rfl, hbl⟩
set_option maxHeartbeats 1000000 in
theorem tell_at (g : Nat) (e p : Int) (w : World) (hg : Hdl w) (hat : AtBlk w g e p) : Calls Tryd.prog 85 #[atV g] w fun ev w' => ev = .returned (.int .i64 e) ∧ Below w.heap.size w w' := by
  have HG := Hd.mk hg
  have HA := Hd.mk hat
  clear hg hat
  go_enter Tryd.func85, Tryd.ntmps85
  go_wp2_with fail
  have hn : (w.alloc (.cells #[.int .i64 0] 25)).cell? ⟨w.heap.size, 0, none⟩ = some (.int .i64 0) := by simp
  have hc := asW_cell (e := e) hn
  have hbl : Below w.heap.size w (asW (w.alloc (.cells #[.int .i64 0] 25)) ⟨w.heap.size, 0, none⟩ e) := asW_below (ex_alloc (Below.refl _ _) _) (Nat.le_refl _)
  refine (as_at g e p ⟨w.heap.size, 0, none⟩ (.int .i64 0) _ (HG.out.below (ex_alloc (Below.refl _ _) _)) (HA.out.below (ex_alloc (Below.refl _ _) _)) hn (by simp)).mono ?_
  rintro ev w' ⟨rfl, rfl⟩
  generalize asW (w.alloc (.cells #[.int .i64 0] 25)) ⟨w.heap.size, 0, none⟩ e = w1 at hc hbl ⊢
  clear hn
  go_wp2_with fail
  go_ret
  exact ⟨rfl, hbl⟩
/-- An error that the program makes: none, an Errno, an *api.At; its Errno and its place (-1: none). -/
inductive ErrV (w : World) : Value → Int → Int → Prop
  | nil : ErrV w .nilIface 0 (-1)
  | no (e : Int) : ErrV w (.iface 25 (.int .i64 e)) e (-1)
  | at_ (g : Nat) (e p : Int) (h : AtBlk w g e p) : ErrV w (atV g) e p
theorem ErrV.below {w w' : World} {v : Value} {e p : Int} (h : ErrV w v e p) (hb : Below w.heap.size w w') : ErrV w' v e p := by
  cases h with
  | nil => exact .nil
  | no => exact .no _
  | at_ g _ _ h => exact .at_ g _ _ (h.below hb)
theorem tell_calls {v : Value} {e p : Int} {w : World} (h : ErrV w v e p) (hg : Hdl w) : Calls Tryd.prog 85 #[v] w fun ev w' => ev = .returned (.int .i64 e) ∧ Below w.heap.size w w' := by
  cases h with
  | nil => exact tell_nil w
  | no e => exact tell_no e w hg
  | at_ g e p h => exact tell_at g e p w hg h
set_option maxHeartbeats 1000000 in
theorem ta_noAt (e : Int) (w : World) : (Instr.typeAssert (.iface 25 (.int .i64 e)) 29 107 true).run Tryd.prog w = .ok (.tuple #[.pointer none, .bool false]) w := by kernel_rfl
theorem ta_atAt (g : Nat) (w : World) : (Instr.typeAssert (.iface 107 (.pointer (some ⟨g, 0, none⟩))) 29 107 true).run Tryd.prog w = .ok (.tuple #[.pointer (some ⟨g, 0, none⟩), .bool true]) w := by kernel_rfl
theorem ta_noUn (e : Int) (w : World) : (Instr.typeAssert (.iface 25 (.int .i64 e)) 29 151 true).run Tryd.prog w = .ok (.tuple #[.nilIface, .bool false]) w :=
  run_typeAssert_lacksB Tryd.underlying151 (by kernel_rfl) (by kernel_rfl) _ _ w
theorem place_x (e : Int) (w : World) (hg : Hdl w) : Calls Tryd.prog 54 #[.iface 25 (.int .i64 e)] w fun ev w' => ev = .returned (.tuple #[.int .i64 e, .int .i64 (-1)]) ∧ Below w.heap.size w w' := by
  have HG := Hd.mk hg
  have t1 := ta_noAt e
  have t2 := ta_noUn e
  clear hg
  go_enter Tryd.func54, Tryd.ntmps54
  go_wp2_with fail
  refine (tell_no e _ HG.out).mono ?_
  rintro ev w1 ⟨rfl, hb⟩
  go_wp2_with fail
  refine wp_loop_rounds 1 ?_
  rw [rounds_succ]
  go_wp2_with fail
  go_ret2
  exact ⟨rfl, hb⟩
set_option maxHeartbeats 1000000 in
theorem place_nil (w : World) : Calls Tryd.prog 54 #[.nilIface] w fun ev w' => ev = .returned (.tuple #[.int .i64 0, .int .i64 (-1)]) ∧ Below w.heap.size w w' := by
  go_enter Tryd.func54, Tryd.ntmps54
  go_wp2_with fail
  refine (tell_nil _).mono ?_
  rintro ev w1 ⟨rfl, hb⟩
  go_wp2_with fail
  refine wp_loop_rounds 1 ?_
  rw [rounds_succ]
  go_wp2_with fail
  go_ret2
  exact ⟨rfl, hb⟩
set_option maxHeartbeats 1000000 in
theorem place_at (g : Nat) (e p : Int) (w : World) (hg : Hdl w) (hat : AtBlk w g e p) : Calls Tryd.prog 54 #[atV g] w fun ev w' => ev = .returned (.tuple #[.int .i64 e, .int .i64 p]) ∧ Below w.heap.size w w' := by
  have HG := Hd.mk hg
  have HA := Hd.mk hat
  have t1 := ta_atAt g
  clear hg hat
  go_enter Tryd.func54, Tryd.ntmps54
  go_wp2_with fail
  refine (tell_at g e p _ HG.out HA.out).mono ?_
  rintro ev w1 ⟨rfl, hb⟩
  have hA := HA.out.below hb
  have hc : w1.cell? ⟨g, 1, none⟩ = some (.int .i64 p) := by
    unfold AtBlk at hA
    simp [World.cell?, hA]
  clear hA
  go_wp2_with fail
  refine wp_loop_rounds 1 ?_
  rw [rounds_succ]
  go_wp2_with fail
  go_quiet (fail)
  go_wp2_with fail
  go_ret2
  exact ⟨rfl, ex_drewN _ hb⟩
theorem place_calls {v : Value} {e p : Int} {w : World} (h : ErrV w v e p) (hg : Hdl w) : Calls Tryd.prog 54 #[v] w fun ev w' => ev = .returned (.tuple #[.int .i64 e, .int .i64 p]) ∧ Below w.heap.size w w' := by
  cases h with
  | nil => exact place_nil w
  | no e => exact place_x e w hg
  | at_ g e p h => exact place_at g e p w hg h
theorem beqi (a b : Int) : (a == b) = decide (a = b) := by by_cases h : a = b <;> simp [h]
set_option maxHeartbeats 1000000 in
theorem is_x {v : Value} {e p : Int} {w : World} (f q : Int) (h : ErrV w v e p) (hg : Hdl w) : Calls Tryd.prog 20 #[v, .agg #[.int .i64 f, .int .i64 q]] w fun ev w' => ev = .returned (.bool (e == f && p == q)) ∧ Below w.heap.size w w' := by
  have HH := Hd.mk h
  have HG := Hd.mk hg
  clear h hg
  go_enter Tryd.func20, Tryd.ntmps20
  go_wp2_with fail
  have hx : Below w.heap.size w (w.alloc (.cells #[.int .i64 f, .int .i64 q] 39)) := ex_alloc (Below.refl _ _) _
  refine (place_calls (HH.out.below hx) (HG.out.below hx)).mono ?_
  rintro ev w1 ⟨rfl, hb⟩
  have hb2 := bstep hx hb
  obtain ⟨hc, hf⟩ := bcell hb
  simp only [World.size_alloc] at hc hf
  have f0 : w1.cell? ⟨w.heap.size, 0, none⟩ = some (.int .i64 f) := by rw [hc _ _ (by omega)]; simp
  have f1 : w1.cell? ⟨w.heap.size, 1, none⟩ = some (.int .i64 q) := by rw [hc _ _ (by omega)]; simp
  have HB := Hd.mk hb2
  clear hb hb2 hc hf hx
  cases h1 : (e == f)
  · go_wp2_with fail
    go_ret
    exact ⟨by rw [h1]; rfl, HB.out⟩
  · go_wp2_with fail
    go_ret
    exact ⟨by rw [h1]; rfl, HB.out⟩
theorem is_true {v : Value} {e p : Int} {w : World} (h : ErrV w v e p) (hg : Hdl w) : Calls Tryd.prog 20 #[v, .agg #[.int .i64 e, .int .i64 p]] w fun ev w' => ev = .returned (.bool true) ∧ Below w.heap.size w w' := by
  refine (is_x e p h hg).mono ?_
  rintro ev w' ⟨rfl, hb⟩
  exact ⟨by simp, hb⟩
theorem bareR_calls (e : Int) (w : World) : Calls Tryd.prog 49 #[.int .i64 e] w fun ev w' => ev = .returned (.agg #[.int .i64 e, .int .i64 (-1)]) ∧ Below w.heap.size w w' := by
  go_enter Tryd.func49, Tryd.ntmps49
  go_wp2_with fail
  refine bodyPost_ret (v := .agg #[.int .i64 e, .int .i64 (-1)]) (by simp [results, Tryd.results49, go_sem]) rfl ?_
  exact ⟨rfl, (by repeat (first | exact Below.refl _ _ | exact ex_drew (by assumption) | apply ex_drew | apply ex_drewN | apply ex_alloc | assumption))⟩
set_option maxHeartbeats 1000000 in
theorem bare_true {v : Value} {e : Int} {w : World} (h : ErrV w v e (-1)) (hg : Hdl w) : Calls Tryd.prog 11 #[v, .int .i64 e] w fun ev w' => ev = .returned (.bool true) ∧ Below w.heap.size w w' := by
  have HH := Hd.mk h
  have HG := Hd.mk hg
  clear h hg
  go_enter Tryd.func11, Tryd.ntmps11
  go_wp2_with fail
  refine (bareR_calls e _).mono ?_
  rintro ev w1 ⟨rfl, hb1⟩
  go_wp2_with fail
  refine (is_true (HH.out.below hb1) (HG.out.below hb1)).mono ?_
  rintro ev w2 ⟨rfl, hb2⟩
  go_wp2_with fail
  go_ret
  exact ⟨rfl, bstep hb1 hb2⟩
end Go.Proofs.YthbhhnfhjppbdaaDoor
