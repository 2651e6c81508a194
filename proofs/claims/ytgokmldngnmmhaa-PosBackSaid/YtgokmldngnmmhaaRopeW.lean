/- Ahead: the refusals; all of it. -/
import Derived.Test.YtgokmldngnmmhaaRopeV
namespace Go.Proofs.Ytgokmldngnmmhaa
open Go.RowKit Go.Shelf Go.Sort
set_option maxRecDepth 100000
theorem four_new (w : World) (u at_ : Int) (er : Value) : ∀ W, W = ((((w.alloc (.cells #[.int .i64 u] 3)).alloc (.cells #[.int .i64 at_] 3)).alloc (.cells #[.int .i64 0, .int .i64 0, .int .i64 0, .int .i64 0] 28)).alloc (.cells #[er] 31)) →
    CnBlk W (w.heap.size + 1 + 1) Cn.zero ∧ Blk W (w.heap.size + 1 + 1 + 1) 31 #[er] ∧ Below w.heap.size w W := by
  rintro W rfl
  have h3 := heap_alloc_new ((w.alloc (.cells #[.int .i64 u] 3)).alloc (.cells #[.int .i64 at_] 3)) (.cells #[.int .i64 0, .int .i64 0, .int .i64 0, .int .i64 0] 28)
  have h4 := Blk.new (((w.alloc (.cells #[.int .i64 u] 3)).alloc (.cells #[.int .i64 at_] 3)).alloc (.cells #[.int .i64 0, .int .i64 0, .int .i64 0, .int .i64 0] 28)) 31 #[er]
  simp only [World.size_alloc] at h3 h4
  have h3' : CnBlk _ (w.heap.size + 1 + 1) Cn.zero := h3
  exact ⟨Blk.alloc (t := 28) h3' _, h4, ex_alloc (ex_alloc (ex_alloc (ex_alloc (Below.refl _ _) _) _) _) _⟩
set_option maxHeartbeats 4000000 in
theorem ahead_arg {p : Nat} {t : RT} {w : World} {u at_ : Int} (hu : u < 1 ∨ 3 < u) :
    Calls Try.prog 12 #[.pointer (some ⟨p, 0, none⟩), .int .i64 u, .int .i64 at_] w (AheadPost u at_ t.runes w) := by
  have HU := Hd.mk hu
  refine (callsIn_wide (n := 6)).1 ?_
  refine callsIn_of_wp_marks Try.func12 rfl trivial ?_ rfl
  simp only [Try.ntmps12, List.size_toArray, List.length_cons, List.length_nil, Nat.reduceAdd, Nat.reduceSub, Array.replicate_succ, Array.replicate_zero, List.push_toArray, List.append_toArray, List.nil_append, List.cons_append]
  refine wpIn_wide.2 (Code.wp_mono NoPanic.imp ?_)
  by_cases h1 : u < 1
  · clear hu
    go_wp2_with fail
    obtain ⟨e1, e2, e3⟩ := four_new w u at_ (errno 1) _ rfl
    change bodyPostM Fence.wide 6 _ _ _ Exit.ret _ _
    exact ah_ret e1 e2 e3 ⟨fun _ => ⟨rfl, rfl⟩, fun h => absurd HU.out h, fun h => absurd HU.out h⟩ rfl rfl rfl
  · have h2 : 3 < u := by omega
    clear hu
    go_wp2_with fail
    obtain ⟨e1, e2, e3⟩ := four_new w u at_ (errno 1) _ rfl
    change bodyPostM Fence.wide 6 _ _ _ Exit.ret _ _
    exact ah_ret e1 e2 e3 ⟨fun _ => ⟨rfl, rfl⟩, fun h => absurd HU.out h, fun h => absurd HU.out h⟩ rfl rfl rfl
set_option maxHeartbeats 4000000 in
theorem ahead_range {p : Nat} {t : RT} {w : World} {u at_ : Int} (h : AtR w p t) (hu : 1 ≤ u ∧ u ≤ 3) (ha : at_ < 0 ∨ (cnt t.runes).of u < at_) :
    Calls Try.prog 12 #[.pointer (some ⟨p, 0, none⟩), .int .i64 u, .int .i64 at_] w (AheadPost u at_ t.runes w) := by
  have HR := Hd.mk h
  have HU := Hd.mk hu
  have HA := Hd.mk ha
  obtain ⟨hu1, hu2⟩ := hu
  have i1 : ¬ u < 1 := by omega
  have i2 : ¬ 3 < u := by omega
  obtain ⟨tot, htot⟩ : ∃ x, x = (cnt t.runes).of u := ⟨_, rfl⟩
  have HTOT := Hd.mk htot
  rw [← htot] at ha
  have d1 : decide (u < 1) = false := decide_eq_false i1
  clear h htot
  refine (callsIn_wide (n := 6)).1 ?_
  refine callsIn_of_wp_marks Try.func12 rfl trivial ?_ rfl
  simp only [Try.ntmps12, List.size_toArray, List.length_cons, List.length_nil, Nat.reduceAdd, Nat.reduceSub, Array.replicate_succ, Array.replicate_zero, List.push_toArray, List.append_toArray, List.nil_append, List.cons_append]
  refine wpIn_wide.2 (Code.wp_mono NoPanic.imp ?_)
  by_cases h3 : at_ < 0
  · have d3 : decide (at_ < 0) = true := decide_eq_true h3
    clear ha
    go_wp2_with fail
    have hS := aht_new w u at_
    generalize ((((w.alloc (.cells #[.int .i64 u] 3)).alloc (.cells #[.int .i64 at_] 3)).alloc (.cells #[.int .i64 0, .int .i64 0, .int .i64 0, .int .i64 0] 28)).alloc (.cells #[.nilIface] 31)) = wa at hS ⊢
    have b0 := hS.bu.cell 0
    have b1 := hS.ba.cell 0
    simp only [List.getElem?_toArray, List.getElem?_cons_zero] at b0 b1
    have HS := Hd.mk hS
    clear hS
    have hc1 : ∀ d os, Calls Try.prog 8 #[.pointer (some ⟨p, 0, none⟩)] (grow (redrawn wa d) os) fun e w'' => e = .returned (cnt t.runes).v ∧ ∃ p : Regrown, w'' = grow (redrawn wa p.d) p.os := fun d os => Calls.regrown_of (counts_calls (HR.out.below (bstep HS.out.below (below_regrown wa d os))))
    have hc2 : ∀ d os, Calls Try.prog 7 #[(cnt t.runes).v, .int .i64 u] (grow (redrawn wa d) os) fun e w'' => e = .returned (.int .i64 tot) ∧ ∃ p : Regrown, w'' = grow (redrawn wa p.d) p.os := fun d os => by rw [HTOT.out]; exact Calls.regrown_of (in_calls _ _ _)
    have kb0 := cell_regrown b0
    have kb1 := cell_regrown b1
    refine wp_region_quiet_below (by kernel_rfl) (by kernel_rfl) ?_
    repeat (quiet_step (first | exact hc1 _ _ | exact hc2 _ _))
    refine wpQuiet_nil ?_
    rintro _ ⟨⟨dq, osq⟩, rfl⟩
    have HS2 := Hd.mk (HS.out.then_below (below_regrown wa dq osq))
    generalize grow (redrawn wa dq) osq = wb at HS2 ⊢
    clear hc1 hc2 kb0 kb1 b0 b1 HS wa
    obtain ⟨z0, z1, z2, z3⟩ := HS2.out.r0.cells
    have y0 := HS2.out.r1.cell 0
    simp only [List.getElem?_toArray, List.getElem?_cons_zero] at y0
    have r0f := HS2.out.r0.frozen
    have r1f := HS2.out.r1.frozen
    have r0l := HS2.out.r0.lt
    have r1l := HS2.out.r1.lt
    go_wp2_with fail
    obtain ⟨e1, e2, e3, -⟩ := ah_store HS2.out Cn.zero (errno 2) _ rfl
    change bodyPostM Fence.wide 6 _ _ _ Exit.ret _ _
    exact ah_ret e1 e2 e3 ⟨fun e => by have := HU.out; omega, fun _ _ => ⟨rfl, rfl⟩, fun _ h => absurd HA.out h⟩ rfl rfl rfl
  · have i4 : tot < at_ := by omega
    have d3 : decide (at_ < 0) = false := decide_eq_false h3
    clear ha
    go_wp2_with fail
    have hS := aht_new w u at_
    generalize ((((w.alloc (.cells #[.int .i64 u] 3)).alloc (.cells #[.int .i64 at_] 3)).alloc (.cells #[.int .i64 0, .int .i64 0, .int .i64 0, .int .i64 0] 28)).alloc (.cells #[.nilIface] 31)) = wa at hS ⊢
    have b0 := hS.bu.cell 0
    have b1 := hS.ba.cell 0
    simp only [List.getElem?_toArray, List.getElem?_cons_zero] at b0 b1
    have HS := Hd.mk hS
    clear hS
    have hc1 : ∀ d os, Calls Try.prog 8 #[.pointer (some ⟨p, 0, none⟩)] (grow (redrawn wa d) os) fun e w'' => e = .returned (cnt t.runes).v ∧ ∃ p : Regrown, w'' = grow (redrawn wa p.d) p.os := fun d os => Calls.regrown_of (counts_calls (HR.out.below (bstep HS.out.below (below_regrown wa d os))))
    have hc2 : ∀ d os, Calls Try.prog 7 #[(cnt t.runes).v, .int .i64 u] (grow (redrawn wa d) os) fun e w'' => e = .returned (.int .i64 tot) ∧ ∃ p : Regrown, w'' = grow (redrawn wa p.d) p.os := fun d os => by rw [HTOT.out]; exact Calls.regrown_of (in_calls _ _ _)
    have kb0 := cell_regrown b0
    have kb1 := cell_regrown b1
    refine wp_region_quiet_below (by kernel_rfl) (by kernel_rfl) ?_
    repeat (quiet_step (first | exact hc1 _ _ | exact hc2 _ _))
    refine wpQuiet_nil ?_
    rintro _ ⟨⟨dq, osq⟩, rfl⟩
    have HS2 := Hd.mk (HS.out.then_below (below_regrown wa dq osq))
    generalize grow (redrawn wa dq) osq = wb at HS2 ⊢
    clear hc1 hc2 kb0 kb1 b0 b1 HS wa
    obtain ⟨z0, z1, z2, z3⟩ := HS2.out.r0.cells
    have y0 := HS2.out.r1.cell 0
    simp only [List.getElem?_toArray, List.getElem?_cons_zero] at y0
    have r0f := HS2.out.r0.frozen
    have r1f := HS2.out.r1.frozen
    have r0l := HS2.out.r0.lt
    have r1l := HS2.out.r1.lt
    go_wp2_with fail
    obtain ⟨e1, e2, e3, -⟩ := ah_store HS2.out Cn.zero (errno 2) _ rfl
    change bodyPostM Fence.wide 6 _ _ _ Exit.ret _ _
    exact ah_ret e1 e2 e3 ⟨fun e => by have := HU.out; omega, fun _ _ => ⟨rfl, rfl⟩, fun _ h => absurd HA.out h⟩ rfl rfl rfl
theorem ahead_calls {p : Nat} {t : RT} {w : World} {u at_ : Int} (h : AtR w p t) (hg : Good t) :
    Calls Try.prog 12 #[.pointer (some ⟨p, 0, none⟩), .int .i64 u, .int .i64 at_] w (AheadPost u at_ t.runes w) := by
  by_cases hu : u < 1 ∨ 3 < u
  · exact ahead_arg hu
  · by_cases ha : at_ < 0 ∨ (cnt t.runes).of u < at_
    · exact ahead_range h (by omega) ha
    · exact ahead_in h hg (by omega) (by omega)
end Go.Proofs.Ytgokmldngnmmhaa
