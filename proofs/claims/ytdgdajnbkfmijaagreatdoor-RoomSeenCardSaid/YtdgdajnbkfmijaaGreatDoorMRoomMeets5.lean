/- Walks of package utf's counts: one, Plus, In; and of the reference's In. -/
import Derived.Test.YtdgdajnbkfmijaaGreatDoorMRoomMeets2
import Derived.IntWalk
namespace Go.Proofs.YtdgdajnbkfmijaaGreatDoor
open Go.RowKit
set_option maxRecDepth 100000
/-- Counts, as plain numbers. -/
structure Cn where
  b : Int
  h : Int
  r : Int
  l : Int
def Cn.add (x y : Cn) : Cn := ⟨x.b + y.b, x.h + y.h, x.r + y.r, x.l + y.l⟩
def Cn.zero : Cn := ⟨0, 0, 0, 0⟩
/-- Counts as a value. -/
abbrev Cn.v (x : Cn) : Value := .agg #[.int .i64 x.b, .int .i64 x.h, .int .i64 x.r, .int .i64 x.l]
theorem Cn.v_eq (x : Cn) : x.v = .agg #[.int .i64 x.b, .int .i64 x.h, .int .i64 x.r, .int .i64 x.l] := rfl
/-- All four from 0 to below so many. -/
structure Cn.In (x : Cn) (n : Int) : Prop where
  b0 : 0 ≤ x.b
  b1 : x.b ≤ n
  h0 : 0 ≤ x.h
  h1 : x.h ≤ n
  r0 : 0 ≤ x.r
  r1 : x.r ≤ n
  l0 : 0 ≤ x.l
  l1 : x.l ≤ n
set_option maxHeartbeats 400000 in
theorem plus_wrap (a0 a1 a2 a3 b0 b1 b2 b3 : Int) (w : World) :
    Calls Tryz.prog 60 #[.agg #[.int .i64 a0, .int .i64 a1, .int .i64 a2, .int .i64 a3], .agg #[.int .i64 b0, .int .i64 b1, .int .i64 b2, .int .i64 b3]] w
      fun e w' => e = .returned (.agg #[.int .i64 (wrap64 (a0 + b0)), .int .i64 (wrap64 (a1 + b1)), .int .i64 (wrap64 (a2 + b2)), .int .i64 (wrap64 (a3 + b3))]) ∧ Below w.heap.size w w' := by
  go_enter Tryz.func60, Tryz.ntmps60
  go_wp2
  refine bodyPost_ret (v := .agg #[.int .i64 (wrap64 (a0 + b0)), .int .i64 (wrap64 (a1 + b1)), .int .i64 (wrap64 (a2 + b2)), .int .i64 (wrap64 (a3 + b3))]) (by simp [results, Tryz.results60, go_sem]) rfl ?_
  exact ⟨rfl, (((Below.refl _ _).alloc (Nat.le_refl _) _).alloc (by simp) _).alloc (by simp; omega) _⟩
theorem plus_calls (x y : Cn) (w : World) (hx : x.In 2305843009213693952) (hy : y.In 2305843009213693952) :
    Calls Tryz.prog 60 #[x.v, y.v] w fun e w' => e = .returned (x.add y).v ∧ Below w.heap.size w w' := by
  refine (plus_wrap x.b x.h x.r x.l y.b y.h y.r y.l w).mono ?_
  rintro e w' ⟨rfl, h⟩
  refine ⟨?_, h⟩
  obtain ⟨h1, h2, h3, h4, h5, h6, h7, h8⟩ := hx
  obtain ⟨g1, g2, g3, g4, g5, g6, g7, g8⟩ := hy
  unfold Cn.v Cn.add
  rw [IntWalk.wrap64_in _ ⟨by omega, by omega⟩, IntWalk.wrap64_in _ ⟨by omega, by omega⟩, IntWalk.wrap64_in _ ⟨by omega, by omega⟩, IntWalk.wrap64_in _ ⟨by omega, by omega⟩]
/-- In. -/
def Cn.of (x : Cn) (u : Int) : Int := if u = 1 then x.b else if u = 2 then x.h else if u = 3 then x.r else 0
set_option maxHeartbeats 400000 in
theorem in_calls (x : Cn) (u : Int) (w : World) :
    Calls Tryz.prog 150 #[x.v, .int .i64 u] w fun e w' => e = .returned (.int .i64 (x.of u)) ∧ Below w.heap.size w w' := by
  rw [Cn.v_eq]
  go_enter Tryz.func150, Tryz.ntmps150
  go_wp2
  all_goals go_ret
  all_goals refine ⟨?_, (Below.refl _ _).alloc (Nat.le_refl _) _⟩
  all_goals unfold Cn.of
  · have h : u = 1 := by simpa using ‹(u == 1) = true›
    rw [if_pos h]; rfl
  · have h : u = 2 := by simpa using ‹(u == 2) = true›
    rw [if_neg (by omega), if_pos h]; rfl
  · have h : u = 3 := by simpa using ‹(u == 3) = true›
    rw [if_neg (by omega), if_neg (by omega), if_pos h]; rfl
  · have h1 : ¬ u = 1 := by simpa using ‹(u == 1) = false›
    have h2 : ¬ u = 2 := by simpa using ‹(u == 2) = false›
    have h3 : ¬ u = 3 := by simpa using ‹(u == 3) = false›
    rw [if_neg h1, if_neg h2, if_neg h3]; rfl
/-- A rune's counts. -/
def oneC (r : Int) (n : Int) : Cn := ⟨n, if 65536 ≤ r then 2 else 1, 1, if r = 10 then 1 else 0⟩
set_option maxHeartbeats 400000 in
theorem one_calls (r n : Int) (w : World) :
    Calls Tryz.prog 61 #[.int .i32 r, .int .i64 n] w fun e w' => e = .returned (oneC r n).v ∧ Below w.heap.size w w' := by
  by_cases h1 : 65536 ≤ r
  · have h2 : (r == 10) = false := by rw [beq_eq_false_iff_ne]; omega
    have e : (oneC r n).v = .agg #[.int .i64 n, .int .i64 2, .int .i64 1, .int .i64 0] := by
      unfold oneC Cn.v; dsimp only; rw [if_pos h1, if_neg (by omega)]
    rw [e]; clear e
    go_enter Tryz.func61, Tryz.ntmps61
    go_wp2
    refine bodyPost_ret (v := .agg #[.int .i64 n, .int .i64 2, .int .i64 1, .int .i64 0]) (by simp [results, Tryz.results61, go_sem]) rfl ?_
    exact ⟨rfl, ((Below.refl _ _).alloc (Nat.le_refl _) _).alloc (by simp) _⟩
  · by_cases h2 : r = 10
    · subst h2
      have e : (oneC 10 n).v = .agg #[.int .i64 n, .int .i64 1, .int .i64 1, .int .i64 1] := by
        unfold oneC Cn.v; dsimp only; rw [if_neg (by omega), if_pos (by omega)]
      rw [e]; clear e
      go_enter Tryz.func61, Tryz.ntmps61
      go_wp2
      refine bodyPost_ret (v := .agg #[.int .i64 n, .int .i64 1, .int .i64 1, .int .i64 1]) (by simp [results, Tryz.results61, go_sem]) rfl ?_
      exact ⟨rfl, ((Below.refl _ _).alloc (Nat.le_refl _) _).alloc (by simp) _⟩
    · have h3 : (r == 10) = false := by rw [beq_eq_false_iff_ne]; omega
      have e : (oneC r n).v = .agg #[.int .i64 n, .int .i64 1, .int .i64 1, .int .i64 0] := by
        unfold oneC Cn.v; dsimp only; rw [if_neg h1, if_neg h2]
      rw [e]; clear e
      go_enter Tryz.func61, Tryz.ntmps61
      go_wp2
      refine bodyPost_ret (v := .agg #[.int .i64 n, .int .i64 1, .int .i64 1, .int .i64 0]) (by simp [results, Tryz.results61, go_sem]) rfl ?_
      exact ⟨rfl, ((Below.refl _ _).alloc (Nat.le_refl _) _).alloc (by simp) _⟩
end Go.Proofs.YtdgdajnbkfmijaaGreatDoor
