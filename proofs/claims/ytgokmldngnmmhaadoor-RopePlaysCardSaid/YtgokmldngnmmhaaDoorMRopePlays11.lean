/- Several texts of the proof, one behind the other: RopeW, RefA, RopeS, Bld, RopeT, LineP. -/
import Derived.Test.YtgokmldngnmmhaaDoorMRopePlays10
import Derived.Test.YtgokmldngnmmhaaDoorMRopePlays9
import Derived.Test.YtgokmldngnmmhaaDoorMRopePlays4
import Derived.Test.YtgokmldngnmmhaaDoorMRopePlays1
import Derived.Test.YtgokmldngnmmhaaDoorChecked
import Derived.Shelf.Strings.BuilderK
import Derived.Test.YtgokmldngnmmhaaDoorMRopePlays7
import Derived.Laws.EntriesVeiled
import Derived.Test.YtgokmldngnmmhaaDoorMRopePlays8
import Derived.Test.YtgokmldngnmmhaaDoorMRopePlays3
import Derived.Lib.Bytealg
/- Ahead: the refusals; all of it. -/
namespace Go.Proofs.YtgokmldngnmmhaaDoor
open Go.RowKit Go.Shelf Go.Sort
set_option maxRecDepth 100000
theorem four_new (w : World) (u at_ : Int) (er : Value) : ∀ W, W = ((((w.alloc (.cells #[.int .i64 u] 3)).alloc (.cells #[.int .i64 at_] 3)).alloc (.cells #[.int .i64 0, .int .i64 0, .int .i64 0, .int .i64 0] 36)).alloc (.cells #[er] 29)) →
    CnBlk W (w.heap.size + 1 + 1) Cn.zero ∧ Blk W (w.heap.size + 1 + 1 + 1) 29 #[er] ∧ Below w.heap.size w W := by
  rintro W rfl
  have h3 := heap_alloc_new ((w.alloc (.cells #[.int .i64 u] 3)).alloc (.cells #[.int .i64 at_] 3)) (.cells #[.int .i64 0, .int .i64 0, .int .i64 0, .int .i64 0] 36)
  have h4 := Blk.new (((w.alloc (.cells #[.int .i64 u] 3)).alloc (.cells #[.int .i64 at_] 3)).alloc (.cells #[.int .i64 0, .int .i64 0, .int .i64 0, .int .i64 0] 36)) 29 #[er]
  simp only [World.size_alloc] at h3 h4
  have h3' : CnBlk _ (w.heap.size + 1 + 1) Cn.zero := h3
  exact ⟨Blk.alloc (t := 36) h3' _, h4, ex_alloc (ex_alloc (ex_alloc (ex_alloc (Below.refl _ _) _) _) _) _⟩
set_option maxHeartbeats 4000000 in
theorem ahead_arg {p : Nat} {t : RT} {w : World} {u at_ : Int} (hu : u < 1 ∨ 3 < u) :
    Calls Tryd.prog 66 #[.pointer (some ⟨p, 0, none⟩), .int .i64 u, .int .i64 at_] w (AheadPost u at_ t.runes w) := by
  have HU := Hd.mk hu
  refine (callsIn_wide (n := 6)).1 ?_
  refine callsIn_of_wp_marks Tryd.func66 rfl trivial ?_ rfl
  simp only [Tryd.ntmps66, List.size_toArray, List.length_cons, List.length_nil, Nat.reduceAdd, Nat.reduceSub, Array.replicate_succ, Array.replicate_zero, List.push_toArray, List.append_toArray, List.nil_append, List.cons_append]
  refine wpIn_wide.2 (Code.wp_mono NoPanic.imp ?_)
  by_cases h1 : u < 1
  · clear hu
    go_wp2_with fail
    obtain ⟨e1, e2, e3⟩ := four_new w u at_ (errno 1) _ rfl
    change bodyPostM Fence.wide 6 _ _ _ Exit.ret _ _
    exact ah_ret e1 e2 e3 ⟨fun _ => ⟨rfl, rfl⟩, fun h => absurd HU.out h, fun h => absurd HU.out h⟩ rfl rfl rfl
  · have h2 : 3 < u := by omega
    clear hu
    go_wp2_with fail
    obtain ⟨e1, e2, e3⟩ := four_new w u at_ (errno 1) _ rfl
    change bodyPostM Fence.wide 6 _ _ _ Exit.ret _ _
    exact ah_ret e1 e2 e3 ⟨fun _ => ⟨rfl, rfl⟩, fun h => absurd HU.out h, fun h => absurd HU.out h⟩ rfl rfl rfl
set_option maxHeartbeats 4000000 in
theorem ahead_range {p : Nat} {t : RT} {w : World} {u at_ : Int} (h : AtR w p t) (hu : 1 ≤ u ∧ u ≤ 3) (ha : at_ < 0 ∨ (cnt t.runes).of u < at_) :
    Calls Tryd.prog 66 #[.pointer (some ⟨p, 0, none⟩), .int .i64 u, .int .i64 at_] w (AheadPost u at_ t.runes w) := by
  have HR := Hd.mk h
  have HU := Hd.mk hu
  have HA := Hd.mk ha
  obtain ⟨hu1, hu2⟩ := hu
  have i1 : ¬ u < 1 := by omega
  have i2 : ¬ 3 < u := by omega
  obtain ⟨tot, htot⟩ : ∃ x, x = (cnt t.runes).of u := ⟨_, rfl⟩
  have HTOT := Hd.mk htot
  rw [← htot] at ha
  have d1 : decide (u < 1) = false := decide_eq_false i1
  clear h htot
  refine (callsIn_wide (n := 6)).1 ?_
  refine callsIn_of_wp_marks Tryd.func66 rfl trivial ?_ rfl
  simp only [Tryd.ntmps66, List.size_toArray, List.length_cons, List.length_nil, Nat.reduceAdd, Nat.reduceSub, Array.replicate_succ, Array.replicate_zero, List.push_toArray, List.append_toArray, List.nil_append, List.cons_append]
  refine wpIn_wide.2 (Code.wp_mono NoPanic.imp ?_)
  by_cases h3 : at_ < 0
  · have d3 : decide (at_ < 0) = true := decide_eq_true h3
    clear ha
    go_wp2_with fail
    have hS := aht_new w u at_
    generalize ((((w.alloc (.cells #[.int .i64 u] 3)).alloc (.cells #[.int .i64 at_] 3)).alloc (.cells #[.int .i64 0, .int .i64 0, .int .i64 0, .int .i64 0] 36)).alloc (.cells #[.nilIface] 29)) = wa at hS ⊢
    have b0 := hS.bu.cell 0
    have b1 := hS.ba.cell 0
    simp only [List.getElem?_toArray, List.getElem?_cons_zero] at b0 b1
    have HS := Hd.mk hS
    clear hS
    have hc1 : ∀ d os, Calls Tryd.prog 61 #[.pointer (some ⟨p, 0, none⟩)] (grow (redrawn wa d) os) fun e w'' => e = .returned (cnt t.runes).v ∧ ∃ p : Regrown, w'' = grow (redrawn wa p.d) p.os := fun d os => Calls.regrown_of (counts_calls (HR.out.below (bstep HS.out.below (below_regrown wa d os))))
    have hc2 : ∀ d os, Calls Tryd.prog 60 #[(cnt t.runes).v, .int .i64 u] (grow (redrawn wa d) os) fun e w'' => e = .returned (.int .i64 tot) ∧ ∃ p : Regrown, w'' = grow (redrawn wa p.d) p.os := fun d os => by rw [HTOT.out]; exact Calls.regrown_of (in_calls _ _ _)
    have kb0 := cell_regrown b0
    have kb1 := cell_regrown b1
    refine wp_region_quiet_below (by kernel_rfl) (by kernel_rfl) ?_
    repeat (quiet_step (first | exact hc1 _ _ | exact hc2 _ _))
    refine wpQuiet_nil ?_
    rintro _ ⟨⟨dq, osq⟩, rfl⟩
    have HS2 := Hd.mk (HS.out.then_below (below_regrown wa dq osq))
    generalize grow (redrawn wa dq) osq = wb at HS2 ⊢
    clear hc1 hc2 kb0 kb1 b0 b1 HS wa
    obtain ⟨z0, z1, z2, z3⟩ := HS2.out.r0.cells
    have y0 := HS2.out.r1.cell 0
    simp only [List.getElem?_toArray, List.getElem?_cons_zero] at y0
    have r0f := HS2.out.r0.frozen
    have r1f := HS2.out.r1.frozen
    have r0l := HS2.out.r0.lt
    have r1l := HS2.out.r1.lt
    go_wp2_with fail
    obtain ⟨e1, e2, e3, -⟩ := ah_store HS2.out Cn.zero (errno 2) _ rfl
    change bodyPostM Fence.wide 6 _ _ _ Exit.ret _ _
    exact ah_ret e1 e2 e3 ⟨fun e => by have := HU.out; omega, fun _ _ => ⟨rfl, rfl⟩, fun _ h => absurd HA.out h⟩ rfl rfl rfl
  · have i4 : tot < at_ := by omega
    have d3 : decide (at_ < 0) = false := decide_eq_false h3
    clear ha
    go_wp2_with fail
    have hS := aht_new w u at_
    generalize ((((w.alloc (.cells #[.int .i64 u] 3)).alloc (.cells #[.int .i64 at_] 3)).alloc (.cells #[.int .i64 0, .int .i64 0, .int .i64 0, .int .i64 0] 36)).alloc (.cells #[.nilIface] 29)) = wa at hS ⊢
    have b0 := hS.bu.cell 0
    have b1 := hS.ba.cell 0
    simp only [List.getElem?_toArray, List.getElem?_cons_zero] at b0 b1
    have HS := Hd.mk hS
    clear hS
    have hc1 : ∀ d os, Calls Tryd.prog 61 #[.pointer (some ⟨p, 0, none⟩)] (grow (redrawn wa d) os) fun e w'' => e = .returned (cnt t.runes).v ∧ ∃ p : Regrown, w'' = grow (redrawn wa p.d) p.os := fun d os => Calls.regrown_of (counts_calls (HR.out.below (bstep HS.out.below (below_regrown wa d os))))
    have hc2 : ∀ d os, Calls Tryd.prog 60 #[(cnt t.runes).v, .int .i64 u] (grow (redrawn wa d) os) fun e w'' => e = .returned (.int .i64 tot) ∧ ∃ p : Regrown, w'' = grow (redrawn wa p.d) p.os := fun d os => by rw [HTOT.out]; exact Calls.regrown_of (in_calls _ _ _)
    have kb0 := cell_regrown b0
    have kb1 := cell_regrown b1
    refine wp_region_quiet_below (by kernel_rfl) (by kernel_rfl) ?_
    repeat (quiet_step (first | exact hc1 _ _ | exact hc2 _ _))
    refine wpQuiet_nil ?_
    rintro _ ⟨⟨dq, osq⟩, rfl⟩
    have HS2 := Hd.mk (HS.out.then_below (below_regrown wa dq osq))
    generalize grow (redrawn wa dq) osq = wb at HS2 ⊢
    clear hc1 hc2 kb0 kb1 b0 b1 HS wa
    obtain ⟨z0, z1, z2, z3⟩ := HS2.out.r0.cells
    have y0 := HS2.out.r1.cell 0
    simp only [List.getElem?_toArray, List.getElem?_cons_zero] at y0
    have r0f := HS2.out.r0.frozen
    have r1f := HS2.out.r1.frozen
    have r0l := HS2.out.r0.lt
    have r1l := HS2.out.r1.lt
    go_wp2_with fail
    obtain ⟨e1, e2, e3, -⟩ := ah_store HS2.out Cn.zero (errno 2) _ rfl
    change bodyPostM Fence.wide 6 _ _ _ Exit.ret _ _
    exact ah_ret e1 e2 e3 ⟨fun e => by have := HU.out; omega, fun _ _ => ⟨rfl, rfl⟩, fun _ h => absurd HA.out h⟩ rfl rfl rfl
theorem ahead_calls {p : Nat} {t : RT} {w : World} {u at_ : Int} (h : AtR w p t) (hg : Good t) :
    Calls Tryd.prog 66 #[.pointer (some ⟨p, 0, none⟩), .int .i64 u, .int .i64 at_] w (AheadPost u at_ t.runes w) := by
  by_cases hu : u < 1 ∨ 3 < u
  · exact ahead_arg hu
  · by_cases ha : at_ < 0 ∨ (cnt t.runes).of u < at_
    · exact ahead_range h (by omega) ha
    · exact ahead_in h hg (by omega) (by omega)
end Go.Proofs.YtgokmldngnmmhaaDoor
/- The reference's Ahead. -/
namespace Go.Proofs.YtgokmldngnmmhaaDoor
open Go.RowKit
set_option maxRecDepth 100000
namespace CL
theorem cnv_get {l : List Cn} : ∀ {k : Nat} {x : Cn}, l[k]? = some x → (cnv l)[k * 4]? = some (.int .i64 x.b) ∧ (cnv l)[k * 4 + 1]? = some (.int .i64 x.h) ∧ (cnv l)[k * 4 + 2]? = some (.int .i64 x.r) ∧ (cnv l)[k * 4 + 3]? = some (.int .i64 x.l) := by
  induction l with
  | nil => intro k x h; simp at h
  | cons y l ih =>
    intro k x h
    have e : cnv (y :: l) = y.cells ++ cnv l := by simp [cnv]
    cases k with
    | zero =>
      simp only [List.getElem?_cons_zero, Option.some.injEq] at h
      subst h
      rw [e]; exact ⟨rfl, rfl, rfl, rfl⟩
    | succ k =>
      simp only [List.getElem?_cons_succ] at h
      obtain ⟨h0, h1, h2, h3⟩ := ih h
      have g : ∀ j, (cnv (y :: l))[(k + 1) * 4 + j]? = (cnv l)[k * 4 + j]? := fun j => by
        rw [e, List.getElem?_append_right (by simp; omega)]
        congr 1; simp; omega
      exact ⟨(g 0).trans h0, (g 1).trans h1, (g 2).trans h2, (g 3).trans h3⟩
theorem sl_cn {w : World} {l : List Cn} {v : Value} {n : Nat} (h : Sl w 4 v n (cnv l)) (hn : 0 < n) : ∃ b o c, v = .slice (some ⟨b, o, none⟩) n c ∧ b < w.heap.size ∧
    ∀ k x, l[k]? = some x → w.cell? ⟨b, o + k * 4, none⟩ = some (.int .i64 x.b) ∧ w.cell? ⟨b, o + k * 4 + 1, none⟩ = some (.int .i64 x.h) ∧ w.cell? ⟨b, o + k * 4 + 2, none⟩ = some (.int .i64 x.r) ∧ w.cell? ⟨b, o + k * 4 + 3, none⟩ = some (.int .i64 x.l) := by
  obtain ⟨A, c, rfl, h2, _, _, _, h5⟩ := h
  obtain ⟨ad, rfl, hb, hc⟩ := h5 hn
  obtain ⟨b, o, p⟩ := ad
  have hp : p = none := by
    rw [cnv_length] at h2
    have hl : 0 < l.length := by omega
    have hz := hc 0 (.int .i64 (l[0]'hl).b) (cnv_get (List.getElem?_eq_getElem hl)).1
    have : (⟨b, o, p⟩ : Addr).add 0 = ⟨b, o, p⟩ := by unfold Addr.add; rfl
    rw [this] at hz
    cases p with
    | none => rfl
    | some x => unfold World.cell? at hz; split at hz <;> simp at hz
  subst hp
  refine ⟨b, o, c, rfl, hb, fun k x hx => ?_⟩
  obtain ⟨h0, h1, h2, h3⟩ := cnv_get hx
  have g0 := hc _ _ h0
  have g1 := hc _ _ h1
  have g2 := hc _ _ h2
  have g3 := hc _ _ h3
  have am : ∀ j, (⟨b, o, none⟩ : Addr).add j = ⟨b, o + j, none⟩ := fun j => by cases j <;> rfl
  rw [am] at g0 g1 g2 g3
  exact ⟨g0, g1, g2, g3⟩
end CL
/-- An error of a number; 0: none. -/
def erV (k : Int) : Value := if k = 0 then .nilIface else errno k
theorem erV_errno {k : Int} (h : k ≠ 0) : erV k = errno k := if_neg h
theorem erV_inj {a b : Int} (h : erV a = erV b) : a = b := by
  unfold erV at h
  split at h <;> split at h
  · omega
  · cases h
  · cases h
  · unfold errno at h; injection h with h1 h2; injection h2
theorem AheadR.unique {u at_ : Int} {R : List Int} {c c' : Cn} {er er' : Value} (h : AheadR u at_ R c er) (h' : AheadR u at_ R c' er') : c = c' ∧ er = er' := by
  obtain ⟨h1, h2, h3⟩ := h
  obtain ⟨k1, k2, k3⟩ := h'
  by_cases hu : u < 1 ∨ 3 < u
  · exact ⟨(h1 hu).1.trans (k1 hu).1.symm, (h1 hu).2.trans (k1 hu).2.symm⟩
  · by_cases ha : at_ < 0 ∨ (cnt R).of u < at_
    · exact ⟨(h2 hu ha).1.trans (k2 hu ha).1.symm, (h2 hu ha).2.trans (k2 hu ha).2.symm⟩
    · rcases h3 hu ha with ⟨e1, e2⟩ | ⟨e1, e2, e3⟩ <;> rcases k3 hu ha with ⟨f1, f2⟩ | ⟨f1, f2, f3⟩
      · exact ⟨e2.unique (by omega) f2, e1.trans f1.symm⟩
      · exact absurd e2 (f3 _)
      · exact absurd f2 (e3 _)
      · exact ⟨e2.trans f2.symm, e1.trans f1.symm⟩
def RAPost (u at_ : Int) (R : List Int) (w : World) (e : Ending) (w' : World) : Prop :=
  Below w.heap.size w w' ∧ ∃ c k, e = .returned (.tuple #[c.v, .int .i64 k]) ∧ AheadR u at_ R c (erV k)
theorem cn_store {w : World} {g : Nat} {z : Cn} (h : CnBlk w g z) (c : Cn) : CnBlk ((((w.setCell ⟨g, 0, none⟩ (.int .i64 c.b)).setCell ⟨g, 1, none⟩ (.int .i64 c.h)).setCell ⟨g, 2, none⟩ (.int .i64 c.r)).setCell ⟨g, 3, none⟩ (.int .i64 c.l)) g c := by
  have h' : Blk w g 36 #[.int .i64 z.b, .int .i64 z.h, .int .i64 z.r, .int .i64 z.l] := h
  exact (((h'.set_ 0 (.int .i64 c.b)).set_ 1 (.int .i64 c.h)).set_ 2 (.int .i64 c.r)).set_ 3 (.int .i64 c.l)
theorem cn_store0 {w : World} {g : Nat} {z : Cn} (h : CnBlk w g z) : ∀ W, W = ((((w.setCell ⟨g, 0, none⟩ (.int .i64 0)).setCell ⟨g, 1, none⟩ (.int .i64 0)).setCell ⟨g, 2, none⟩ (.int .i64 0)).setCell ⟨g, 3, none⟩ (.int .i64 0)) →
    W.cell? ⟨g, 0, none⟩ = some (.int .i64 0) ∧ W.cell? ⟨g, 1, none⟩ = some (.int .i64 0) ∧ W.cell? ⟨g, 2, none⟩ = some (.int .i64 0) ∧ W.cell? ⟨g, 3, none⟩ = some (.int .i64 0) := by
  rintro W rfl
  exact (cn_store h Cn.zero).cells
theorem cn_below {w w5 : World} {x y z u : Value} (h : Below w.heap.size w w5) : Below w.heap.size w ((((w5.setCell ⟨w.heap.size, 0, none⟩ x).setCell ⟨w.heap.size, 1, none⟩ y).setCell ⟨w.heap.size, 2, none⟩ z).setCell ⟨w.heap.size, 3, none⟩ u) :=
  (((h.setCell (p := ⟨w.heap.size, 0, none⟩) (Nat.le_refl _) _).setCell (p := ⟨w.heap.size, 1, none⟩) (Nat.le_refl _) _).setCell (p := ⟨w.heap.size, 2, none⟩) (Nat.le_refl _) _).setCell (p := ⟨w.heap.size, 3, none⟩) (Nat.le_refl _) _
attribute [local go_sem] Cn.v_eq
set_option maxHeartbeats 8000000 in
theorem rahead_calls {R : List Int} {u at_ : Int} {w : World} (hR : U.AllR R) (hl : bl R ≤ 1000000) :
    Calls Tryd.prog 49 #[.string ⟨(U.encs R).toArray⟩, .int .i64 u, .int .i64 at_] w (RAPost u at_ R w) := by
  have hlen : (U.encs R).length = bl R := rfl
  have HA := Hd.mk hR
  have HC := fun w1 => Hd.mk (rcount_calls (U.sp_encs hR) w1 (by rw [hlen]; omega))
  have HE := fun w1 => Hd.mk (redges_calls (w := w1) hR rfl (by rw [hlen]; omega))
  by_cases hu : 1 ≤ u ∧ u ≤ 3
  · obtain ⟨tot, htot⟩ : ∃ x, x = (cnt R).of u := ⟨_, rfl⟩
    have HTOT := Hd.mk htot
    by_cases ha : 0 ≤ at_ ∧ at_ ≤ tot
    · have hrl : R.length ≤ 1000000 := by have := bl_len R; omega
      have HU := Hd.mk hu
      have HAT := Hd.mk ha
      clear hR htot ha
      go_enter Tryd.func49, Tryd.ntmps49
      have hz0 : CnBlk (w.alloc (.cells #[.int .i64 0, .int .i64 0, .int .i64 0, .int .i64 0] 36)) w.heap.size Cn.zero := heap_alloc_new w _
      have HZ0 := Hd.mk hz0
      clear hz0
      go_wp2_with (first
        | (go_at_call_of 87 (Value.int .i64 u); refine (inT HU.out _).mono ?_; rintro e w3 ⟨rfl, rfl⟩)
        | (go_at_call 18; refine (HC _).out.mono ?_; rintro e w1 ⟨hb1, he, -⟩; obtain rfl := he rfl; have HB1 := Hd.mk (bstep (ex_alloc (Below.refl _ _) _) hb1); have hz1 := HZ0.out.below hb1 HZ0.out.lt; have HZ1 := Hd.mk hz1; clear hb1 he hz1; unfold fltV)
        | (go_at_call 38; refine (refIn_calls (cnt R) u _).mono ?_; rintro e w2 ⟨rfl, hb2⟩; rw [← HTOT.out]; have hz2 := (HZ1.out.below (ex_alloc (ex_alloc (Below.refl _ _) _) _) HZ1.out.lt).below hb2 (by have := HZ1.out.lt; simp only [World.size_alloc]; omega); have HZ2 := Hd.mk hz2; have HB2 := Hd.mk (bstep (ex_alloc (ex_alloc HB1.out _) _) hb2); clear hb2 hz2)
        | (go_at_call 87; refine (inT HAT.out _).mono ?_; rintro e w3 ⟨rfl, rfl⟩)
        | (go_at_call 23; refine (HE _).out.mono ?_; rintro e w4 ⟨⟨v, rfl, hsl⟩, hb4⟩; have HB4 := Hd.mk (bstep HB2.out hb4); have hz4 := HZ2.out.below hb4 HZ2.out.lt; have HZ4 := Hd.mk hz4; obtain ⟨b, o, c, rfl, hbw, hcell⟩ := CL.sl_cn hsl (by omega); have HCL := Hd.mk hcell; clear hb4 hz4 hsl hcell))
      go_loopg [31] (R.length + 1) (fun gk iv wr => ∃ k : Nat, iv = .int .i64 k ∧ k + gk = R.length + 1 ∧ Below w4.heap.size w4 wr ∧ (∀ j, j < k → (cnt (R.take j)).of u ≠ at_))
      case atStart => exact ⟨0, rfl, by omega, Below.refl _ _, fun j hj => by omega⟩
      case round =>
        obtain ⟨k, rfl, hk, hb, hno⟩ := hrel
        have HK := Hd.mk hk
        have HB := Hd.mk hb
        have HNO := Hd.mk hno
        by_cases hkr : k < R.length + 1
        · have hki : (k : Int) < (R.length : Int) + 1 := by omega
          have hx := edgs_at R (k := R.length) (j := k) (by omega)
          obtain ⟨x, hxe⟩ : ∃ x, x = cnt (R.take k) := ⟨_, rfl⟩
          rw [← hxe] at hx
          have HX := Hd.mk hxe
          obtain ⟨x0, x1, x2, x3⟩ := HCL.out k x hx
          rw [← hb.cell (p := ⟨b, o + k * 4, none⟩) hbw] at x0
          rw [← hb.cell (p := ⟨b, o + k * 4 + 1, none⟩) hbw] at x1
          rw [← hb.cell (p := ⟨b, o + k * 4 + 2, none⟩) hbw] at x2
          rw [← hb.cell (p := ⟨b, o + k * 4 + 3, none⟩) hbw] at x3
          have hbr : b < wr.heap.size := by have := hb.size; omega
          clear hx hxe hk hb hno
          obtain ⟨v, hv⟩ : ∃ v, v = x.of u := ⟨_, rfl⟩
          have HV := Hd.mk hv
          have hzr := HZ4.out.below HB.out HZ4.out.lt
          have HZr := Hd.mk hzr
          have hxn : CnBlk (wr.alloc (.cells #[.int .i64 x.b, .int .i64 x.h, .int .i64 x.r, .int .i64 x.l] 36)) wr.heap.size x := heap_alloc_new wr _
          have HXN := Hd.mk hxn
          have HWW := Hd.mk (show w.heap.size < wr.heap.size from hzr.lt)
          clear hv hzr hxn
          by_cases hh : v = at_
          · have hb1 : (v == at_) = true := by rw [beq_iff_eq]; exact hh
            go_wp2_with (first | (go_at_call 38; refine (refIn_calls x u _).mono ?_; rintro e w7 ⟨rfl, hb7⟩; rw [← HV.out]; have hz7 := (HZr.out.below (ex_alloc (Below.refl _ _) _) HZr.out.lt).below hb7 (by have := HZr.out.lt; simp only [World.size_alloc]; omega); have hx7 := HXN.out.below hb7 (by simp only [World.size_alloc]; omega); have HZ7 := Hd.mk hz7; have HX7 := Hd.mk hx7; obtain ⟨q0, q1, q2, q3⟩ := hx7.cells; obtain ⟨s0, s1, s2, s3⟩ := hz7.cells; have sf := hz7.frozen; have sl := hz7.lt; have hne := HWW.out; have HB7 := Hd.mk (bstep (bstep HB4.out HB.out) (bstep (ex_alloc (Below.refl _ _) _) hb7)); clear hb7 hz7 hx7))
            obtain ⟨f0, f1, f2, f3⟩ := (cn_store HZ7.out x).cells
            refine bodyPost_ret (v := .tuple #[x.v, .int .i64 0]) (by rw [Cn.v_eq]; simp [results, Tryd.results49, go_sem, f0, f1, f2, f3]) rfl ?_
            refine ⟨cn_below HB7.out, x, 0, rfl, fun h => absurd h (by have := HU.out; omega), fun _ h => absurd h (by have := HAT.out; have := HTOT.out; omega), fun _ _ => .inl ⟨rfl, R.take k, R.drop k, by simp, ?_, HX.out⟩⟩
            rw [← HX.out, ← HV.out]; exact hh
          · have hb1 : (v == at_) = false := by rw [beq_eq_false_iff_ne]; exact hh
            go_wp2_with (first | (go_at_call 38; refine (refIn_calls x u _).mono ?_; rintro e w7 ⟨rfl, hb7⟩; rw [← HV.out]; have HB7 := Hd.mk (bstep HB.out (bstep (ex_alloc (Below.refl _ _) _) hb7)); clear hb7))
            go_roundg (R.length + 1 - (k + 1))
            case rel => exact ⟨k + 1, by simp, by omega, HB7.out, fun j hj => by
              by_cases e : j < k
              · exact HNO.out j e
              · obtain rfl : j = k := by omega
                rw [← HX.out, ← HV.out]; exact hh⟩
            case measure => have := HK.out; omega
        · obtain rfl : k = R.length + 1 := by omega
          have hki : ¬ ((R.length : Int) + 1 < (R.length : Int) + 1) := by omega
          have hzr := HZ4.out.below HB.out HZ4.out.lt
          have HZr := Hd.mk hzr
          obtain ⟨s0, s1, s2, s3⟩ := hzr.cells
          have sf := hzr.frozen
          have sl := hzr.lt
          clear hk hb hno hkr hzr
          go_wp2_with fail
          obtain ⟨f0, f1, f2, f3⟩ := cn_store0 HZr.out _ rfl
          refine bodyPost_ret (v := .tuple #[.agg #[.int .i64 0, .int .i64 0, .int .i64 0, .int .i64 0], .int .i64 10]) (by simp [results, Tryd.results49, go_sem, f0, f1, f2, f3]) rfl ?_
          refine ⟨cn_below (bstep HB4.out HB.out), Cn.zero, 10, rfl, fun h => absurd h (by have := HU.out; omega), fun _ h => absurd h (by have := HAT.out; have := HTOT.out; omega), fun _ _ => .inr ⟨rfl, rfl, ?_⟩⟩
          rintro c' ⟨p, q, e1, e2, -⟩
          refine HNO.out p.length ?_ ?_
          · rw [e1, List.length_append]; omega
          · rw [e1, List.take_left]; exact e2
    · have HNA := Hd.mk ha
      clear hR htot ha
      have hz0 : CnBlk (w.alloc (.cells #[.int .i64 0, .int .i64 0, .int .i64 0, .int .i64 0] 36)) w.heap.size Cn.zero := heap_alloc_new w _
      have HZ0 := Hd.mk hz0
      have HU := Hd.mk hu
      clear hz0
      go_enter Tryd.func49, Tryd.ntmps49
      go_wp2_with (first
        | (go_at_call_of 87 (Value.int .i64 u); refine (inT HU.out _).mono ?_; rintro e w3 ⟨rfl, rfl⟩)
        | (go_at_call 18; refine (HC _).out.mono ?_; rintro e w1 ⟨hb1, he, -⟩; obtain rfl := he rfl; have HB1 := Hd.mk (bstep (ex_alloc (Below.refl _ _) _) hb1); have hz1 := HZ0.out.below hb1 HZ0.out.lt; have HZ1 := Hd.mk hz1; clear hb1 he hz1; unfold fltV)
        | (go_at_call 38; refine (refIn_calls (cnt R) u _).mono ?_; rintro e w2 ⟨rfl, hb2⟩; rw [← HTOT.out]; have hz2 := (HZ1.out.below (ex_alloc (ex_alloc (Below.refl _ _) _) _) HZ1.out.lt).below hb2 (by have := HZ1.out.lt; simp only [World.size_alloc]; omega); have HZ2 := Hd.mk hz2; obtain ⟨q0, q1, q2, q3⟩ := hz2.cells; have qf := hz2.frozen; have ql := hz2.lt; have HB2 := Hd.mk (bstep (ex_alloc (ex_alloc HB1.out _) _) hb2); clear hb2 hz2)
        | (go_at_call 87; refine (inF HNA.out _).mono ?_; rintro e w3 ⟨rfl, rfl⟩))
      obtain ⟨f0, f1, f2, f3⟩ := cn_store0 HZ2.out _ rfl
      refine bodyPost_ret (v := .tuple #[.agg #[.int .i64 0, .int .i64 0, .int .i64 0, .int .i64 0], .int .i64 2]) (by simp [results, Tryd.results49, go_sem, f0, f1, f2, f3]) rfl ?_
      exact ⟨cn_below HB2.out, Cn.zero, 2, rfl, fun h => absurd h (by have := HU.out; omega), fun _ _ => ⟨rfl, rfl⟩, fun _ h => absurd (show at_ < 0 ∨ (cnt R).of u < at_ by have := HNA.out; have := HTOT.out; omega) h⟩
  · clear hR
    go_enter Tryd.func49, Tryd.ntmps49
    go_wp2_with (go_at_call 87; refine (inF hu _).mono ?_; rintro e w3 ⟨rfl, rfl⟩)
    refine bodyPost_ret (v := .tuple #[.agg #[.int .i64 0, .int .i64 0, .int .i64 0, .int .i64 0], .int .i64 1]) (by simp [results, Tryd.results49, go_sem]) rfl ?_
    exact ⟨ex_alloc (Below.refl _ _) _, Cn.zero, 1, rfl, ⟨fun _ => ⟨rfl, rfl⟩, fun h => absurd (by omega) h, fun h => absurd (by omega) h⟩⟩
end Go.Proofs.YtgokmldngnmmhaaDoor
/- Small laws for RopePlays. -/
namespace Go.Proofs.YtgokmldngnmmhaaDoor
open Go.RowKit
set_option maxRecDepth 100000
theorem errV_erV (w : World) (k : Int) : ErrV w (erV k) k (-1) := by
  unfold erV
  split
  · rename_i h; subst h; exact .nil
  · exact .no k
theorem flat_le {cs : List (List Int)} (h : ∀ c ∈ cs, bl c ≤ 32) : cb cs ≤ 32 * cs.length := by
  induction cs with
  | nil => simp
  | cons c cs ih =>
    have h1 := h c (by simp)
    have h2 := ih fun x hx => h x (List.mem_cons_of_mem _ hx)
    rw [cb_cons, List.length_cons]; omega
theorem Good.many {t : RT} (h : Good t) : t.nodes.length ≤ bl t.runes ∧ bl t.runes ≤ 32 * t.nodes.length := by
  have h1 := ne_len h.ne
  have h2 := flat_le h.le
  have h3 := bl_len t.runes
  rw [cb_runes, RT.len_chunks] at h2
  rw [RT.len_chunks, ← RT.runes_chunks] at h1
  exact ⟨by omega, h2⟩
/-- The rope and all that its loop keeps. -/
structure RpI (w wr : World) (p : Nat) (t : RT) : Prop where
  at_ : AtR wr p t
  good : Good t
  below : Below w.heap.size w wr
  hp : w.heap.size ≤ p
  hb : ∀ i ∈ t.blocks, w.heap.size ≤ i
theorem RpI.then_below {w wr w2 : World} {p : Nat} {t : RT} (h : RpI w wr p t) (hb : Below wr.heap.size wr w2) : RpI w w2 p t :=
  ⟨h.at_.below hb, h.good, bstep h.below hb, h.hp, h.hb⟩
theorem RpI.splice {w w3 w5 : World} {p : Nat} {t t5 : RT} {R' : List Int} (h : RpI w w3 p t) (hs : SplW w3 w5 p t t5 R') : RpI w w5 p t5 :=
  ⟨hs.at_, hs.good, h.below.trans (hs.only.below h.below.size (fun k hk e => by
    rcases e with rfl | e
    · have := h.hp; omega
    · have := h.hb k e; omega)), h.hp, fun i hi => by
    rcases hs.sub i hi with e | e
    · exact h.hb i e
    · have := h.below.size; omega⟩
theorem blk_split {w3 w5 : World} {g p : Nat} {t t5 : RT} {R' : List Int} {ty : TypeId} {cs : Array Value} (hz : Blk w3 g ty cs) (hs : SplW w3 w5 p t t5 R') (hp : p ≠ g ∧ g ∉ t.blocks) : Blk w5 g ty cs := by
  refine hz.only hs.only (fun e => ?_)
  rcases e with e | e
  · exact hp.1 e.symm
  · exact hp.2 e
theorem flt_cells {w : World} {g : Nat} {x y : Value} (h : Blk w g 25 #[x, y]) : w.cell? ⟨g, 0, none⟩ = some x ∧ w.cell? ⟨g, 1, none⟩ = some y := by
  have z0 := h.cell 0
  have z1 := h.cell 1
  simp only [List.getElem?_toArray, List.getElem?_cons_zero, List.getElem?_cons_succ] at z0 z1
  exact ⟨z0, z1⟩
theorem cut_cells {w : World} {g : Nat} {ty : TypeId} {x y z : Value} (h : Blk w g ty #[x, y, z]) : w.cell? ⟨g, 0, none⟩ = some x ∧ w.cell? ⟨g, 1, none⟩ = some y ∧ w.cell? ⟨g, 2, none⟩ = some z := by
  have z0 := h.cell 0
  have z1 := h.cell 1
  have z2 := h.cell 2
  simp only [List.getElem?_toArray, List.getElem?_cons_zero, List.getElem?_cons_succ] at z0 z1 z2
  exact ⟨z0, z1, z2⟩
end Go.Proofs.YtgokmldngnmmhaaDoor
/- strings.Builder: WriteString, String. -/
namespace Go.Proofs.YtgokmldngnmmhaaDoor
open Go.RowKit Go.Shelf
set_option maxRecDepth 100000
def bren : Go.Shelf.Ren := ⟨fun | 169 => 82 | n => n, fun | 70 => 138 | 9 => 9 | 0 => 0 | 72 => 141 | 37 => 139 | 127 => 201 | 3 => 3 | 5 => 5 | n => n, fun | n => n⟩
theorem blays : Go.Proofs.Lays.n169 Tryd.prog bren := {
  mixed := by kernel_rfl
  f169 := Tryd.func82.trans (congrArg some (by kernel_rfl))
  t0 := Tryd.underlying0
  a0 := Tryd.isAgg0
  z0 := Tryd.sizeOf0
  v0 := Tryd.zeroValue0
  t3 := Tryd.underlying3
  a3 := Tryd.isAgg3
  z3 := Tryd.sizeOf3
  v3 := Tryd.zeroValue3
  t9 := Tryd.underlying9
  a9 := Tryd.isAgg9
  z9 := Tryd.sizeOf9
  v9 := Tryd.zeroValue9
  t37 := Tryd.underlying139
  a37 := Tryd.isAgg139
  z37 := Tryd.sizeOf139
  v37 := Tryd.zeroValue139
  t70 := Tryd.underlying138
  a70 := Tryd.isAgg138
  z70 := Tryd.sizeOf138
  v70 := Tryd.zeroValue138
  t72 := Tryd.underlying141
  a72 := Tryd.isAgg141
  z72 := Tryd.sizeOf141
  v72 := Tryd.zeroValue141
  t127 := Tryd.underlying201
  a127 := Tryd.isAgg201
  z127 := Tryd.sizeOf201
  v127 := Tryd.zeroValue201 }
theorem bextra : Builder.Extra Tryd.prog bren := {
  sizeBuilder := by kernel_rfl
  liesBuilder := by kernel_rfl
  t5 := Tryd.underlying5
  a5 := Tryd.isAgg5
  z5 := Tryd.sizeOf5
  v5 := Tryd.zeroValue5
  infoByte := by kernel_rfl
  cellsByte := by kernel_rfl
  sizeByte := by kernel_rfl
  neB5 := by decide }
theorem bstring_calls (B b : Nat) (l : List UInt8) (w : World) (h : Lib.IsBuilderF 141 5 B b (Lib.byteCells l) w) (hBw : B ≤ w.heap.size) :
    Calls Tryd.prog 82 #[.pointer (some ⟨b, 0, none⟩)] w fun e w' => e = .returned (.string ⟨l.toArray⟩) ∧ (Lib.IsBuilderF 141 5 B b (Lib.byteCells l) w' ∧ Below B w w' ∧ Lib.OthersKept 5 (some b) w w') := Any.Builder_String_any_k blays bextra B b l w h hBw
set_option maxHeartbeats 1000000 in
theorem bcheck_used (b : Nat) (w : World) (h0 : w.cell? ⟨b, 0, none⟩ = some (.pointer (some ⟨b, 0, none⟩))) :
    Calls Tryd.prog 121 #[.pointer (some ⟨b, 0, none⟩)] w fun e w' => e = .returned (.tuple #[]) ∧ w' = w := by
  obtain ⟨j, hj, _⟩ := Option.map_eq_some_iff.1 bextra.sizeBuilder
  go_enter Tryd.func121, Tryd.ntmps121
  go_wp2
  rw [Lib.run_neq_ptr_same w _ Tryd.underlying138 hj]
  go_wp2
  go_end0
  exact ⟨rfl, rfl⟩
set_option maxHeartbeats 1000000 in
theorem bcheck_fresh (b : Nat) (w : World) (h0 : w.cell? ⟨b, 0, none⟩ = some (.pointer none)) (hsh : w.shape? b = some (141, 2)) (hfz : w.frozen? ⟨b, 0, none⟩ = false) :
    Calls Tryd.prog 121 #[.pointer (some ⟨b, 0, none⟩)] w fun e w' => e = .returned (.tuple #[]) ∧ w' = w.setCell ⟨b, 0, none⟩ (.pointer (some ⟨b, 0, none⟩)) := by
  obtain ⟨j, hj, hjs⟩ := Option.map_eq_some_iff.1 bextra.sizeBuilder
  go_enter Tryd.func121, Tryd.ntmps121
  go_wp2
  rw [Lib.run_to_unsafe w ⟨b, 0, none⟩ Tryd.underlying138 Tryd.underlying210 hj (by rw [hjs]; decide) hsh (Nat.zero_lt_succ 1)]
  simp only [Result.andThen]
  rw [Oper.upon_value]
  go_wp2
  rw [run_callFunc_extern Tryd.func140 (by kernel_rfl) (by kernel_rfl) (by kernel_rfl) (e := Extern.AbiNoEscape.same) (by kernel_rfl)]
  rw [Lib.run_noEscape]
  simp only [Result.andThen]
  rw [Oper.upon_value]
  go_wp2
  rw [Lib.run_from_unsafe w ⟨b, 0, none⟩ Tryd.underlying210 Tryd.underlying138 hj hsh bextra.liesBuilder]
  simp only [Result.andThen]
  rw [Oper.upon_value]
  go_wp2
  go_end0
  exact ⟨rfl, rfl⟩
theorem bcheck_calls (B b : Nat) (bs : List Value) (w : World) (h : Lib.IsBuilderF 141 5 B b bs w) :
    Calls Tryd.prog 121 #[.pointer (some ⟨b, 0, none⟩)] w fun e w' => e = .returned (.tuple #[]) ∧ (Lib.BuilderAtF 141 5 B b (.pointer (some ⟨b, 0, none⟩)) bs w' ∧ Below B w w' ∧ Lib.OthersKept 5 (some b) w w') := by
  rcases h with h | h
  · refine (bcheck_fresh b w h.cell0 h.shape h.frozen0).mono ?_
    rintro e w' ⟨rfl, rfl⟩
    exact ⟨rfl, h.used _, (Below.refl B w).setCell (p := ⟨b, 0, none⟩) h.1 _, (Lib.OthersKept.refl _ _ w).setCell ⟨b, 0, none⟩ rfl _⟩
  · refine (bcheck_used b w h.cell0).mono ?_
    rintro e w' ⟨rfl, rfl⟩
    exact ⟨rfl, h, Below.refl B _, Lib.OthersKept.refl _ _ _⟩
set_option maxHeartbeats 2000000 in
theorem bwrite_calls (B b : Nat) (bs : List Value) (s : ByteArray) (w : World) (h : Lib.IsBuilderF 141 5 B b bs w) (hlen : bs.length + s.size ≤ 140737488355328) (hBw : B ≤ w.heap.size) :
    Calls Tryd.prog 81 #[.pointer (some ⟨b, 0, none⟩), .string s] w fun e w' => e = .returned (.tuple #[.int .i64 s.size, .nilIface]) ∧ (Lib.BuilderAtF 141 5 B b (.pointer (some ⟨b, 0, none⟩)) (bs ++ Lib.strCells s) w' ∧ Below B w w' ∧ Lib.OthersKept 5 (some b) w w') := by
  obtain ⟨i0, hi, hz0, hz1, hz2⟩ := info_parts bextra.infoByte
  go_enter Tryd.func81, Tryd.ntmps81
  go_wp2_with (go_at_call 121; refine (bcheck_calls B b bs _ h).mono ?_)
  rintro e w1 ⟨rfl, h1, hb1, hk1⟩
  obtain ⟨hB, v, hbk, hown, hne⟩ := h1
  have c0 : w1.cell? ⟨b, 0, none⟩ = some (.pointer (some ⟨b, 0, none⟩)) := by rw [Lib.cell_of_heap hbk]; rfl
  have c1 : w1.cell? ⟨b, 1, none⟩ = some v := by rw [Lib.cell_of_heap hbk]; rfl
  go_wp2_with (at_builtin; refine Lib.wpList_append_own_stringF _ rfl _ _ 139 9 rfl B 5 i0 Tryd.underlying139 Tryd.underlying9 hi hz0 hz1 hz2 _ _ _ rfl hown s rfl ?c3 ?c4 ?c5 ?_)
  case c3 => unfold maxLen; omega
  case c4 => omega
  case c5 => have := hb1.size; omega
  intro v' w2 hown' hgrow _
  have hlt : b < w1.heap.size := by
    rcases Nat.lt_or_ge b w1.heap.size with h' | h'
    · exact h'
    · simp [Array.getElem?_eq_none h'] at hbk
  have hb2 : w2.heap[b]? = some (.cells #[.pointer (some ⟨b, 0, none⟩), v] 141 (0, 0)) := by
    rw [hgrow.block b hlt (fun e => hne e.symm)]
    exact hbk
  have d0 : w2.cell? ⟨b, 0, none⟩ = some (.pointer (some ⟨b, 0, none⟩)) := by rw [Lib.cell_of_heap hb2]; rfl
  have d1 : w2.cell? ⟨b, 1, none⟩ = some v := by rw [Lib.cell_of_heap hb2]; rfl
  have f1 : w2.frozen? ⟨b, 1, none⟩ = false := Lib.frozen_of_heap hb2 1
  obtain ⟨ao, n', cap, rfl⟩ : ∃ ao n' cap, v' = .slice ao n' cap := by
    rcases hown'.2 with ⟨hv, _⟩ | ⟨g, cap, cur, fz, hv, _⟩
    · exact ⟨_, _, _, hv⟩
    · exact ⟨_, _, _, hv⟩
  go_wp2
  go_ret2
  refine ⟨rfl, ?_, ?_, (hk1.grown hgrow (Lib.ownsRowF_kind hown)).setCell ⟨b, 1, none⟩ rfl _⟩
  · exact Lib.BuilderAtF.put (T := 141) (e := 5) hB hb2 (bs' := bs ++ Lib.strCells s) (by simpa [Lib.strCells_length] using hown') (by decide)
  · exact (hb1.grown hgrow (by have := hb1.size; omega) (fun k hk => (hown.lt k hk).1)).setCell (p := ⟨b, 1, none⟩) hB _
/-- A new builder. -/
theorem bnew (w : World) : Lib.IsBuilderF 141 5 w.heap.size w.heap.size (Lib.byteCells []) (w.alloc (.cells #[.pointer none, .slice none 0 0] 141)) := by
  refine Lib.IsBuilderF.of (.inl ⟨Nat.le_refl _, .slice none 0 0, Blk.new _ _ _, World.ownsRow_nil _ _ _ _, by simp [Value.ownBlock]⟩)
theorem bcells (l : List UInt8) : Lib.strCells ⟨l.toArray⟩ = Lib.byteCells l := by
  unfold Lib.strCells; rfl
end Go.Proofs.YtgokmldngnmmhaaDoor
/- Text. -/
namespace Go.Proofs.YtgokmldngnmmhaaDoor
open Go.RowKit Go.Shelf
set_option maxRecDepth 100000
theorem blk_keep {w w' : World} {g b : Nat} {t : TypeId} {cs : Array Value} (h : Blk w g t cs) (hk : Lib.OthersKept 5 (some b) w w') (hg : g ≠ b) (ht : t ≠ 5) : Blk w' g t cs :=
  hk g _ h (by simpa using hg) (fun c fz e => by injection e with e1 e2 e3; exact ht e2)
theorem AtT.keep {w w' : World} {b : Nat} {t : RT} (h : AtT w t) (hk : Lib.OthersKept 5 (some b) w w') (hb : b ∉ t.blocks) : AtT w' t := by
  induction t with
  | nil => trivial
  | node g rs l r ihl ihr =>
    simp only [RT.blocks_node, List.mem_append, List.mem_cons, not_or] at hb
    exact ⟨blk_keep h.1 hk (Ne.symm hb.2.1) (by decide), ihl h.2.1 hb.1, ihr h.2.2 hb.2.2⟩
theorem AtR.keep {w w' : World} {b p : Nat} {t : RT} (h : AtR w p t) (hk : Lib.OthersKept 5 (some b) w w') (hb : b ∉ t.blocks) (hp : p ≠ b) : AtR w' p t :=
  ⟨blk_keep h.blk hk hp (by decide), h.tree.keep hk hb, h.out⟩
/-- The closure that goes through the tree: its variable. -/
def walkV (v b : Nat) : Value := .func (.func 103) #[] #[.pointer (some ⟨v, 0, none⟩), .pointer (some ⟨b, 0, none⟩)]
/-- What the closure hands back. -/
def T1Post (B b : Nat) (l : List UInt8) (w : World) (e : Ending) (w' : World) : Prop :=
  e = .returned (.tuple #[]) ∧ Lib.IsBuilderF 141 5 B b (Lib.byteCells l) w' ∧ Below B w w' ∧ Lib.OthersKept 5 (some b) w w'
set_option maxHeartbeats 2000000 in
theorem text1_calls {B b v : Nat} {t : RT} {l : List UInt8} {w : World} (ht : AtT w t) (hv : Blk w v 175 #[walkV v b]) (hb : Lib.IsBuilderF 141 5 B b (Lib.byteCells l) w) (hvb : v ≠ b) (htb : b ∉ t.blocks) (hBw : B ≤ w.heap.size)
    (hlen : l.length + bl t.runes ≤ 1000000) : Calls Tryd.prog 103 #[t.ptr, .pointer (some ⟨v, 0, none⟩), .pointer (some ⟨b, 0, none⟩)] w (T1Post B b (l ++ U.encs t.runes) w) := by
  induction t generalizing l w with
  | nil =>
    have HB := Hd.mk hb
    rw [RT.ptr_nil]
    clear ht hv hb
    go_enter Tryd.func103, Tryd.ntmps103
    go_wp2_with fail
    go_end0
    exact ⟨rfl, by rw [RT.runes_nil, U.encs_nil, List.append_nil]; exact HB.out, Below.refl _ _, Lib.OthersKept.refl _ _ _⟩
  | node g rs a c iha ihc =>
    simp only [RT.blocks_node, List.mem_append, List.mem_cons, not_or] at htb
    simp only [RT.runes_node, bl_append] at hlen
    obtain ⟨c0, -, -, -, -, -, -, -, -, c9, c10, -⟩ := nodeV_cell ht.1
    have cl := ht.1.lt
    have cf := ht.1.frozen
    have v0 := hv.cell 0
    have vl := hv.lt
    simp only [List.getElem?_toArray, List.getElem?_cons_zero, walkV] at v0
    simp only [RT.ptr] at c9 c10
    rw [RT.ptr_node]
    have HT := Hd.mk ht
    have HV := Hd.mk hv
    have HB := Hd.mk hb
    have HTB := Hd.mk htb
    have HLN := Hd.mk hlen
    have HBW := Hd.mk hBw
    have IA := fun w1 (h1 : AtT w1 a) (h2 : Blk w1 v 175 #[walkV v b]) (h3 : Lib.IsBuilderF 141 5 B b (Lib.byteCells l) w1) (h4 : B ≤ w1.heap.size) => Hd.mk (iha (l := l) (w := w1) h1 h2 h3 htb.1 h4 (by omega))
    have IC := fun l1 w1 (h1 : AtT w1 c) (h2 : Blk w1 v 175 #[walkV v b]) (h3 : Lib.IsBuilderF 141 5 B b (Lib.byteCells l1) w1) (h4 : B ≤ w1.heap.size) (h5 : l1.length + bl c.runes ≤ 1000000) => Hd.mk (ihc (l := l1) (w := w1) h1 h2 h3 htb.2.2 h4 h5)
    have HRS : Hd ((U.encs rs).length = bl rs ∧ (U.encs a.runes).length = bl a.runes) := ⟨⟨rfl, rfl⟩⟩
    clear ht hv hb htb hlen hBw iha ihc
    go_enter Tryd.func103, Tryd.ntmps103
    go_wp2_with fail
    go_region_with (go_at_call 103; refine (IA w.drew (HT.out.2.1.below (ex_drew (Below.refl _ _))) HV.out HB.out HBW.out).out.mono ?_; rintro e w1 ⟨rfl, hb1, hbl1, hk1⟩; have hg1 := blk_keep HT.out.1 hk1 (Ne.symm HTB.out.2.1) (by decide); have hv1 := blk_keep HV.out hk1 hvb (by decide); obtain ⟨c0, -, -, -, -, -, -, -, -, c9, c10, -⟩ := nodeV_cell hg1; have cl := hg1.lt; have cf := hg1.frozen; have v0 := hv1.cell 0; have vl := hv1.lt; simp only [List.getElem?_toArray, List.getElem?_cons_zero, walkV] at v0; simp only [RT.ptr] at c9 c10; have HC1 := Hd.mk (HT.out.2.2.keep hk1 HTB.out.2.2); have HG1 := Hd.mk hg1; have HV1 := Hd.mk hv1; have HB1 := Hd.mk hb1; have HBL1 := Hd.mk ((Below.refl B w).drew.trans hbl1); have HK1 := Hd.mk ((Lib.OthersKept.refl _ _ w).drew.trans hk1); clear hg1 hv1 hb1 hbl1 hk1)
    all_goals
      go_wp2_with (go_at_call 81; refine (bwrite_calls B b (Lib.byteCells (l ++ U.encs a.runes)) ⟨(U.encs rs).toArray⟩ _ HB1.out (by rw [Lib.byteCells_length]; have := HLN.out; obtain ⟨q1, q2⟩ := HRS.out; simp only [ByteArray.size, List.size_toArray, List.length_append]; omega) (by have : w.heap.size ≤ w1.heap.size := HBL1.out.size; have := HBW.out; omega)).mono ?_; rintro e w2 ⟨rfl, hb2, hbl2, hk2⟩; have hg2 := blk_keep HG1.out hk2 (Ne.symm HTB.out.2.1) (by decide); have hv2 := blk_keep HV1.out hk2 hvb (by decide); obtain ⟨c0, -, -, -, -, -, -, -, -, c9, c10, -⟩ := nodeV_cell hg2; have cl := hg2.lt; have cf := hg2.frozen; have v0 := hv2.cell 0; have vl := hv2.lt; simp only [List.getElem?_toArray, List.getElem?_cons_zero, walkV] at v0; simp only [RT.ptr] at c9 c10; have HC2 := Hd.mk (HC1.out.keep hk2 HTB.out.2.2); have HV2 := Hd.mk hv2; rw [bcells, ← Lib.byteCells_append] at hb2; have HB2 := Hd.mk (.inr hb2 : Lib.IsBuilderF 141 5 B b (Lib.byteCells ((l ++ U.encs a.runes) ++ U.encs rs)) w2); have HBL2 := Hd.mk (HBL1.out.trans hbl2); have HK2 := Hd.mk (HK1.out.trans hk2); clear hg2 hv2 hb2 hbl2 hk2)
      go_region_with (go_at_call 103; refine (IC ((l ++ U.encs a.runes) ++ U.encs rs) w2.drew (HC2.out.below (ex_drew (Below.refl _ _))) HV2.out HB2.out (by have : w.heap.size ≤ w2.heap.size := HBL2.out.size; have := HBW.out; simp; omega) (by have := HLN.out; obtain ⟨q1, q2⟩ := HRS.out; simp only [List.length_append]; omega)).out.mono ?_; rintro e w3 ⟨rfl, hb3, hbl3, hk3⟩; have HB3 := Hd.mk hb3; have HBL3 := Hd.mk hbl3; have HK3 := Hd.mk hk3; clear hb3 hbl3 hk3)
      all_goals
        go_wp2_with fail
        go_end0
        refine ⟨rfl, ?_, HBL2.out.drew.trans HBL3.out, HK2.out.drew.trans HK3.out⟩
        have := HB3.out
        rw [RT.runes_node, U.encs_append, U.encs_append]
        simpa only [List.append_assoc] using this
theorem rtx_calls {p : Nat} {t : RT} {w : World} (h : AtR w p t) (hs : bl t.runes ≤ 1000000) :
    Calls Tryd.prog 43 #[.pointer (some ⟨p, 0, none⟩)] w fun e w' => e = .returned (.string ⟨(U.encs t.runes).toArray⟩) ∧ Below w.heap.size w w' := by
  have c0 := h.blk.cell 0
  have cl := h.blk.lt
  simp only [List.getElem?_toArray, List.getElem?_cons_zero, RT.ptr] at c0
  have HR := Hd.mk h
  have HLT := Hd.mk h.tree.lt
  have HS := Hd.mk hs
  clear h hs
  go_enter Tryd.func43, Tryd.ntmps43
  go_wp2_with fail
  have hB0 : Lib.IsBuilderF 141 5 w.heap.size w.heap.size (Lib.byteCells []) ((w.alloc (.cells #[.pointer none, .slice none 0 0] 141)).alloc (.cells #[walkV (w.heap.size + 1) w.heap.size] 175)) := (bnew w).alloc _
  have hV0 : Blk ((w.alloc (.cells #[.pointer none, .slice none 0 0] 141)).alloc (.cells #[walkV (w.heap.size + 1) w.heap.size] 175)) (w.heap.size + 1) 175 #[walkV (w.heap.size + 1) w.heap.size] := by
    have := Blk.new (w.alloc (.cells #[.pointer none, .slice none 0 0] 141)) 175 #[walkV (w.heap.size + 1) w.heap.size]
    rw [World.size_alloc] at this; exact this
  have HB0 := Hd.mk hB0
  have HV0 := Hd.mk hV0
  clear hB0 hV0
  go_region_with (go_at_call 103; refine (text1_calls (B := w.heap.size) (b := w.heap.size) (v := w.heap.size + 1) (t := t) (l := []) (HR.out.tree.below (ex_drew (ex_alloc (ex_alloc (Below.refl _ _) _) _))) HV0.out HB0.out (by omega) (fun e => by have := HLT.out _ e; omega) (by simp; omega) (by have := HS.out; simp; omega)).mono ?_; rintro e w3 ⟨rfl, hb3, hbl3, hk3⟩; have HB3 := Hd.mk hb3; have HBL3 := Hd.mk hbl3; have HK3 := Hd.mk hk3; clear hb3 hbl3 hk3)
  all_goals
    rw [List.nil_append] at HB3
    go_wp2_with (go_at_call 82; refine (bstring_calls w.heap.size w.heap.size (U.encs t.runes) _ HB3.out (by have := HBL3.out.size; simp at this; omega)).mono ?_; rintro e w4 ⟨rfl, -, hbl4, -⟩; have HBL4 := Hd.mk hbl4; clear hbl4)
    go_ret
    exact ⟨rfl, ((ex_drew (ex_alloc (ex_alloc (Below.refl _ _) _) _)).trans HBL3.out).trans HBL4.out⟩
end Go.Proofs.YtgokmldngnmmhaaDoor
/- Lines of a text in its bytes. Plain. -/
namespace Go.Proofs.YtgokmldngnmmhaaDoor
open Go.RowKit
theorem idx_hit {l t : List UInt8} {c : UInt8} (h : l.count c = 0) : Lib.indexByte (l ++ c :: t) c = l.length := by
  induction l with
  | nil => simp [Lib.indexByte]
  | cons x l ih =>
    rw [List.count_cons] at h
    have hx : (x == c) = false := by
      cases e : (x == c)
      · rfl
      · rw [e] at h; simp at h
    have h2 : l.count c = 0 := by omega
    have := ih h2
    rw [List.cons_append, Lib.indexByte, hx, this]
    have hn : ((l.length : Int) == -1) = false := by rw [beq_eq_false_iff_ne]; omega
    rw [hn]
    simp
theorem idx_none {l : List UInt8} {c : UInt8} (h : l.count c = 0) : Lib.indexByte l c = -1 := by
  induction l with
  | nil => rfl
  | cons x l ih =>
    rw [List.count_cons] at h
    have hx : (x == c) = false := by
      cases e : (x == c)
      · rfl
      · rw [e] at h; simp at h
    have := ih (by omega)
    rw [Lib.indexByte, hx, this]
    rfl
theorem count_encs {rs : List Int} (h : U.AllR rs) : ((U.encs rs).count 10 : Int) = (cnt rs).l := by rw [cnt_full h]
theorem encs_nl (a b : List Int) : U.encs (a ++ 10 :: b) = U.encs a ++ 10 :: U.encs b := by
  rw [U.encs_append, U.encs_cons]; rfl
theorem split_nl {q : List Int} (h : 0 < (cnt q).l) : ∃ a b, q = a ++ 10 :: b ∧ (cnt a).l = 0 := by
  induction q with
  | nil => rw [cnt_nil] at h; exact absurd h (by decide)
  | cons r q ih =>
    by_cases hr : r = 10
    · subst hr; exact ⟨[], q, rfl, rfl⟩
    · have e : (r :: q) = [r] ++ q := rfl
      rw [e, cnt_app_l, cnt_one_l, if_neg hr] at h
      obtain ⟨a, b, rfl, ha⟩ := ih (by omega)
      refine ⟨r :: a, b, rfl, ?_⟩
      rw [show (r :: a) = [r] ++ a from rfl, cnt_app_l, cnt_one_l, if_neg hr, ha]; rfl
theorem all_of_app {a b : List Int} (h : U.AllR (a ++ b)) : U.AllR a ∧ U.AllR b := ⟨fun r hr => h r (List.mem_append_left _ hr), fun r hr => h r (List.mem_append_right _ hr)⟩
theorem idx_encs {a b : List Int} (h : U.AllR (a ++ 10 :: b)) (h0 : (cnt a).l = 0) : Lib.indexByte (U.encs (a ++ 10 :: b)) 10 = bl a := by
  rw [encs_nl]
  refine idx_hit ?_
  have := count_encs (all_of_app h).1
  omega
/-- One line further: from a line's beginning to the next one's. -/
theorem line_step {p q : List Int} (h : U.AllR (p ++ q)) (hq : 0 < (cnt q).l) : ∃ a b, q = a ++ 10 :: b ∧ (cnt (p ++ a ++ [10])).l = (cnt p).l + 1 ∧ Lib.indexByte (U.encs q) 10 = bl a ∧ bl (p ++ a ++ [10]) = bl p + bl a + 1 ∧ p ++ q = (p ++ a ++ [10]) ++ b := by
  obtain ⟨a, b, rfl, h0⟩ := split_nl hq
  refine ⟨a, b, rfl, ?_, idx_encs (all_of_app h).2 h0, ?_, by simp⟩
  · rw [cnt_app_l, cnt_app_l, cnt_one_l, if_pos rfl, h0]; omega
  · rw [bl_append, bl_append]; rfl
end Go.Proofs.YtgokmldngnmmhaaDoor
