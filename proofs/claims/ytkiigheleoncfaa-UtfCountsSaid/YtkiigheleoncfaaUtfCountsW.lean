/- The walk of the law UtfCounts. -/
import Derived.Test.YtkiigheleoncfaaRefIn
import Derived.Test.YtkiigheleoncfaaExt
import Derived.Test.YtkiigheleoncfaaCnEq
import Derived.Deep.RegionHeld3
import Derived.Deep.DrawnRows
namespace Go.Proofs.Ytkiigheleoncfaa
open Go.RowKit
set_option maxRecDepth 100000
attribute [local go_sem ↓] Go.wp_at_zero Go.wp_at_succ
theorem wrapEq (a : Int) : IntKind.i64.wrap a = wrap64 a := IntWalk.i64_left a
set_option maxHeartbeats 2000000 in
theorem utfCounts_walk (x y : Cn) (u : Int) (w : World) :
    Calls Try.prog 3 #[x.v, y.v, .int .i64 u] w fun e w' => e = .returned (.bool true) ∧ Below w.heap.size w w' := by
  rw [Cn.v_eq, Cn.v_eq]
  have heq : ∀ (a b c d : Int) (w : World), (binOp .eql 23 (.agg #[.int .i64 a, .int .i64 b, .int .i64 c, .int .i64 d]) (.agg #[.int .i64 a, .int .i64 b, .int .i64 c, .int .i64 d])).run Try.prog w = .ok (.bool true) w :=
    fun a b c d w => by have h := cn_eql ⟨a, b, c, d⟩ ⟨a, b, c, d⟩ w; rw [Cn.beq_self] at h; exact h
  have hg := cn_eqGuard
  have hwr := wrapEq
  go_enter Try.func3, Try.ntmps3
  go_wp2_with fail
  refine (plus_wrap _ _ _ _ _ _ _ _ _).mono ?_
  rintro e w1 ⟨rfl, hb⟩
  go_wp2_with fail
  have hbw : Below w.heap.size w w1 := (((Below.refl _ _).alloc (Nat.le_refl _) _).alloc (by simp) _).trans (hb.mono (by simp; omega))
  obtain ⟨hc, hf⟩ := bcell hb
  have hz : w.heap.size + 1 < w1.heap.size := by have := hb.size; simp at this; omega
  simp only [World.size_alloc] at hc hf
  have hz0 : w.heap.size < w1.heap.size := by omega
  go_region_held3 (fun w' => Below (w1.heap.size + 1) (w1.alloc (.cells #[.int .i64 (wrap64 (x.b + y.b)), .int .i64 (wrap64 (x.h + y.h)), .int .i64 (wrap64 (x.r + y.r)), .int .i64 (wrap64 (x.l + y.l))] 23)) w' ∧ w1.heap.size + 1 ≤ w'.heap.size ∧
      ∀ b o, b < w1.heap.size + 1 → w'.cell? ⟨b, o, none⟩ = (w1.alloc (.cells #[.int .i64 (wrap64 (x.b + y.b)), .int .i64 (wrap64 (x.h + y.h)), .int .i64 (wrap64 (x.r + y.r)), .int .i64 (wrap64 (x.l + y.l))] 23)).cell? ⟨b, o, none⟩)
    (first | exact ext_start (by simp) | exact ext_call (by assumption) (by assumption))
    (first | (go_at_call 7; refine (in_calls x u _).mono ?_; rintro e w' ⟨rfl, hb'⟩) | (go_at_call 8; refine (refIn_calls x u _).mono ?_; rintro e w' ⟨rfl, hb'⟩))
  have hfin : Below w.heap.size w w' := by
    have h1 := (hbw.alloc (by omega) (.cells #[.int .i64 (wrap64 (x.b + y.b)), .int .i64 (wrap64 (x.h + y.h)), .int .i64 (wrap64 (x.r + y.r)), .int .i64 (wrap64 (x.l + y.l))] 23))
    rename_i hHeld
    exact h1.trans (hHeld.1.mono (by omega))
  clear hwr heq hg hc hf hz hz0 hbw
  go_wp2
  go_ret
  exact ⟨rfl, hfin⟩
end Go.Proofs.Ytkiigheleoncfaa
