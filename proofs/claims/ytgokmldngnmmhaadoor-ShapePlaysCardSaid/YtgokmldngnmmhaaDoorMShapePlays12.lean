/- The reference's In (a map literal, asked once). -/
import Derived.Test.YtgokmldngnmmhaaDoorMShapePlays5
import Derived.Test.YtgokmldngnmmhaaDoorMShapePlays1
namespace Go.Proofs.YtgokmldngnmmhaaDoor
open Go.RowKit
set_option maxRecDepth 100000
theorem zeroInt (w : World) : (zeroValue 3).run Tryd.prog w = .ok (.int .i64 0) w := by kernel_rfl
def refEs (x : Cn) : Array MapEntry := #[{ key := .int .i64 1, val := .int .i64 x.b, born := 0 }, { key := .int .i64 2, val := .int .i64 x.h, born := 1 }, { key := .int .i64 3, val := .int .i64 x.r, born := 2 }]
theorem refFind (x : Cn) (u : Int) : (∃ i, Instr.findNow (.int .i64) (.int .i64 u) (refEs x).toList 0 = some (some (i, .int .i64 (x.of u)))) ∨
    (Instr.findNow (.int .i64) (.int .i64 u) (refEs x).toList 0 = some none ∧ x.of u = 0) := by
  unfold refEs Cn.of
  by_cases h1 : u = 1
  · exact .inl ⟨0, by simp [Instr.findNow, Instr.sameNow, h1]⟩
  by_cases h2 : u = 2
  · exact .inl ⟨1, by simp [Instr.findNow, Instr.sameNow, h2]⟩
  by_cases h3 : u = 3
  · exact .inl ⟨2, by simp [Instr.findNow, Instr.sameNow, h3]⟩
  · refine .inr ⟨?_, by rw [if_neg h1, if_neg h2, if_neg h3]⟩
    simp [Instr.findNow, Instr.sameNow, beq_eq_false_iff_ne.2 h1, beq_eq_false_iff_ne.2 h2, beq_eq_false_iff_ne.2 h3]
theorem refLookup (x : Cn) (u : Int) (w : World) : (Instr.lookup 166 (.map (some w.heap.size)) (.int .i64 u) false).run Tryd.prog (w.alloc (.map (refEs x) 3)) = .ok (.int .i64 (x.of u)) (w.alloc (.map (refEs x) 3)) := by
  rcases refFind x u with ⟨i, h⟩ | ⟨h, e⟩
  · exact run_lookup_last Tryd.underlying166 Tryd.underlying3 w (refEs x) 3 u i _ h
  · rw [e]
    exact run_lookup_last_none Tryd.underlying166 Tryd.underlying3 w (refEs x) 3 u _ zeroInt h
set_option maxHeartbeats 400000 in
theorem refIn_calls (x : Cn) (u : Int) (w : World) :
    Calls Tryd.prog 38 #[x.v, .int .i64 u] w fun e w' => e = .returned (.int .i64 (x.of u)) ∧ Below w.heap.size w w' := by
  rw [Cn.v_eq]
  have hmm := @run_makeMap Tryd.prog
  have i1 := run_insert_last (P := Tryd.prog) (w := w.alloc (.cells #[.int .i64 x.b, .int .i64 x.h, .int .i64 x.r, .int .i64 x.l] 36)) Tryd.underlying166 Tryd.underlying3 #[] 0 1 (.int .i64 x.b) rfl
  have i2 := run_insert_last (P := Tryd.prog) (w := w.alloc (.cells #[.int .i64 x.b, .int .i64 x.h, .int .i64 x.r, .int .i64 x.l] 36)) Tryd.underlying166 Tryd.underlying3
    #[{ key := .int .i64 1, val := .int .i64 x.b, born := 0 }] 1 2 (.int .i64 x.h) rfl
  have i3 := run_insert_last (P := Tryd.prog) (w := w.alloc (.cells #[.int .i64 x.b, .int .i64 x.h, .int .i64 x.r, .int .i64 x.l] 36)) Tryd.underlying166 Tryd.underlying3
    #[{ key := .int .i64 1, val := .int .i64 x.b, born := 0 }, { key := .int .i64 2, val := .int .i64 x.h, born := 1 }] 2 3 (.int .i64 x.r) rfl
  have l := refLookup x u (w.alloc (.cells #[.int .i64 x.b, .int .i64 x.h, .int .i64 x.r, .int .i64 x.l] 36))
  unfold refEs at l
  generalize x.of u = q at l ⊢
  simp only [List.push_toArray, List.nil_append, List.cons_append, World.size_alloc] at i1 i2 i3 l
  go_enter Tryd.func38, Tryd.ntmps38
  go_wp2
  go_ret
  exact ⟨rfl, ((Below.refl _ _).alloc (Nat.le_refl _) _).alloc (by simp) _⟩
end Go.Proofs.YtgokmldngnmmhaaDoor
