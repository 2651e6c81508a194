/- Several texts of the proof, one behind the other: RopeX, PosC, PosD. -/
import Derived.Test.YtgokmldngnmmhaaDoorMPosConverts34
import Derived.Sort.CutIn
import Derived.Stop.RegionWithIn
/- Line. -/
namespace Go.Proofs.YtgokmldngnmmhaaDoor
open Go.RowKit Go.Shelf Go.Sort
set_option maxRecDepth 100000
section
variable {n : Nat} {P : Program} {ops : Array Oper} {md : Region.Mode} {Q : Exit → Act → World → Prop} {l : Nat}
theorem oper_round {o : Oper} {a : Act} {K K' : Act → World → Prop} {w : World} (hnd : ∀ c, o.op ≠ .defer c) (h : ∀ a w, K a w → K' a w) (hh : o.wp P a w K Q) : o.wpIn (Fence.wide.inRound l) n P a w K' Q := by
  unfold Oper.wp at hh
  unfold Oper.wpIn
  refine ⟨fun _ _ => trivial, ?_⟩
  rw [Fence.inRound_round, Oper.semAt_some _ _ _ hnd]
  generalize (execOp a.eval o).run P w = r at *
  cases r with
  | ok x w' =>
    cases x <;> simp only [Oper.upon] at hh <;> simp only [Oper.uponIn]
    case value u => exact h _ _ hh
    case skip => exact h _ _ hh
    case defer d => exact h _ _ hh
    case enter f args =>
      refine ⟨fun hd => absurd hd (by simp [Fence.inRound, Fence.wide]), CallsIn.inRound l ((callsIn_wide.2 hh).mono ?_)⟩
      intro e w2 h2
      cases e <;> first | exact h _ _ h2 | exact h2
    case row row args => exact ⟨fun hd => absurd hd (by simp [Fence.inRound, Fence.wide]), fun c cs _ => let ⟨v, w2, r, s⟩ := hh c cs; ⟨v, w2, h _ _ r, stepsIn_wide.2 s⟩⟩
  | halt x w' =>
    cases x <;> simp only [Oper.upon] at hh <;> simp only [Oper.uponIn]
    all_goals first | exact hh | exact hh.elim
theorem round_any (hnd : ∀ (i : Nat) (o : Oper), ops[i]? = some o → ∀ c, o.op ≠ .defer c) (hno : ¬ LetsOut Q) :
    ∀ (fuel : Nat) (listed : Array Bool) (a : Act) (w : World), wpAny P md ops Q fuel listed a w → wpAnyIn (Fence.wide.inRound l) n P md ops Q fuel listed a w
  | 0, _, _, _, h => h
  | fuel + 1, listed, _, _, h => ⟨h.1, fun i hi => by
      have hh := h.2 i hi
      have ih := fun a' w' => round_any hnd hno fuel (listed.setIfInBounds i true) a' w'
      unfold wpOp at hh
      unfold wpOpIn
      split
      · rename_i ho; simp only [ho] at hh; exact ih _ _ hh
      · rename_i o ho
        simp only [ho] at hh
        split
        · rename_i hw
          simp only [hw, if_true] at hh
          exact oper_round (hnd _ _ ho) ih (hh.resolve_right (fun e => hno e.2))
        · rename_i hw
          simp only [hw] at hh
          exact ⟨fun _ _ => trivial, ih _ _ hh⟩⟩
theorem round_held {id : Nat} {S : World → Prop} {a : Act} {w : World} {ol : List Oper} (hm : P.follows .mixedOrders = true) (hnd : ol.all (fun o : Oper => match o.op with | .defer _ => false | _ => true) = true) (hno : ¬ LetsOut Q)
    (hS : S w.drew) (h : S w.drew → wpAnyH P .any ol.toArray Q S ol.toArray.size (Array.replicate ol.toArray.size false) a w.drew) : (Code.region id ol.toArray true).wpIn (Fence.wide.inRound l) n P Q a w := by
  refine wpIn_region_any hm (round_any ?_ hno _ _ _ _ (wpAny_of_held (S := S) _ _ _ _ (h hS)))
  intro i o ho c hc
  simp only [List.getElem?_toArray] at ho
  have := List.all_eq_true.1 hnd o (List.mem_of_getElem? ho)
  rw [hc] at this
  cases this
end
/-- What Line tells. -/
def LineR (n : Int) (R : List Int) (c : Cn) (er : Value) : Prop :=
  ((n < 0 ∨ (cnt R).l < n) → c = Cn.zero ∧ er = errno 2) ∧ (¬ (n < 0 ∨ (cnt R).l < n) → er = .nilIface ∧ Ln n R c)
def LinePost (n : Int) (R : List Int) (w : World) (e : Ending) (w' : World) : Prop :=
  Below w.heap.size w w' ∧ ∃ c er, e = .returned (.tuple #[c.v, er]) ∧ LineR n R c er
structure LnT (w wr : World) (n : Int) : Prop where
  bn : Blk wr w.heap.size 3 #[.int .i64 n]
  r0 : CnBlk wr (w.heap.size + 1) Cn.zero
  r1 : Blk wr (w.heap.size + 1 + 1) 29 #[.nilIface]
  below : Below w.heap.size w wr
theorem LnT.then_below {w wr w2 : World} {n : Int} (h : LnT w wr n) (hb : Below wr.heap.size wr w2) : LnT w w2 n :=
  ⟨h.bn.below hb h.bn.lt, h.r0.below hb h.r0.lt, h.r1.below hb h.r1.lt, bstep h.below hb⟩
theorem three_new (w : World) (n : Int) (er : Value) : ∀ W, W = (((w.alloc (.cells #[.int .i64 n] 3)).alloc (.cells #[.int .i64 0, .int .i64 0, .int .i64 0, .int .i64 0] 36)).alloc (.cells #[er] 29)) →
    CnBlk W (w.heap.size + 1) Cn.zero ∧ Blk W (w.heap.size + 1 + 1) 29 #[er] ∧ Below w.heap.size w W ∧ Blk W w.heap.size 3 #[.int .i64 n] := by
  rintro W rfl
  have h1 := Blk.new w 3 #[.int .i64 n]
  have h3 := heap_alloc_new (w.alloc (.cells #[.int .i64 n] 3)) (.cells #[.int .i64 0, .int .i64 0, .int .i64 0, .int .i64 0] 36)
  have h4 := Blk.new ((w.alloc (.cells #[.int .i64 n] 3)).alloc (.cells #[.int .i64 0, .int .i64 0, .int .i64 0, .int .i64 0] 36)) 29 #[er]
  simp only [World.size_alloc] at h3 h4
  have h3' : CnBlk _ (w.heap.size + 1) Cn.zero := h3
  exact ⟨Blk.alloc (t := 36) h3' _, h4, ex_alloc (ex_alloc (ex_alloc (Below.refl _ _) _) _) _, (h1.alloc _).alloc _⟩
theorem ln_store {w wr : World} {n : Int} (h : LnT w wr n) (c : Cn) (er : Value) : ∀ W', W' = (((((wr.setCell ⟨w.heap.size + 1, 0, none⟩ (.int .i64 c.b)).setCell ⟨w.heap.size + 1, 1, none⟩ (.int .i64 c.h)).setCell ⟨w.heap.size + 1, 2, none⟩ (.int .i64 c.r)).setCell ⟨w.heap.size + 1, 3, none⟩ (.int .i64 c.l)).setCell ⟨w.heap.size + 1 + 1, 0, none⟩ er) →
    CnBlk W' (w.heap.size + 1) c ∧ Blk W' (w.heap.size + 1 + 1) 29 #[er] ∧ Below w.heap.size w W' ∧ (∀ b, b ≠ w.heap.size + 1 → b ≠ w.heap.size + 1 + 1 → W'.heap[b]? = wr.heap[b]?) ∧ W'.heap.size = wr.heap.size := by
  rintro W' rfl
  obtain ⟨h1, h2, h3⟩ := cn_set (y := c) h.r0
  have hr1 : Blk _ (w.heap.size + 1 + 1) _ _ := (h3 (w.heap.size + 1 + 1) (by omega)).trans h.r1
  refine ⟨(Below.heap_setCell _ _ _ _ (by show w.heap.size + 1 ≠ w.heap.size + 1 + 1; omega)).trans h1, hr1.set_ 0 er, ?_, fun b hb1 hb2 => (Below.heap_setCell _ _ _ _ (by show b ≠ w.heap.size + 1 + 1; exact hb2)).trans (h3 b hb1), by simp⟩
  exact (h.below.trans (h2 _ (by omega))).setCell (p := ⟨w.heap.size + 1 + 1, 0, none⟩) (by show w.heap.size ≤ w.heap.size + 1 + 1; omega) _
theorem ln_ret {w W : World} {c : Cn} {er : Value} {n : Int} {R : List Int} {a : Act} {B1 B2 : Nat} (h1 : CnBlk W B1 c) (h2 : Blk W B2 29 #[er]) (hb : Below w.heap.size w W) (ha : LineR n R c er)
    (t6 : a.tmps[4]? = some (.pointer (some ⟨B1, 0, none⟩))) (t7 : a.tmps[5]? = some (.pointer (some ⟨B2, 0, none⟩))) (hd : a.defers = []) :
    bodyPostM Fence.wide 6 Tryd.prog Tryd.f68 (LinePost n R w) Exit.ret a W := by
  obtain ⟨g0, g1, g2, g3⟩ := h1.cells
  have y0 := h2.cell 0
  simp only [List.getElem?_toArray, List.getElem?_cons_zero] at y0
  show LeavesInM _ _ _ _ _ _ _ _ _
  rw [hd]
  exact ⟨.tuple #[c.v, er], by simp [results, Tryd.f68, go_sem, t6, t7, g0, g1, g2, g3, y0], hb, c, er, rfl, ha⟩
theorem ln_ret1 {w W : World} {c : Cn} {er : Value} {n : Int} {R : List Int} {a : Act} {B1 B2 bk : Nat} (h1 : CnBlk W B1 c) (h2 : Blk W B2 29 #[er]) (hb : Below w.heap.size w W) (ha : LineR n R c er)
    (t6 : a.tmps[4]? = some (.pointer (some ⟨B1, 0, none⟩))) (t7 : a.tmps[5]? = some (.pointer (some ⟨B2, 0, none⟩))) (hd : a.defers = [{ target := .collected bk, args := #[] }]) (hk : W.heap[bk]? = some (.deferred (some []))) (hn : B1 ≠ bk ∧ B2 ≠ bk ∧ w.heap.size ≤ bk) :
    bodyPostM Fence.wide 6 Tryd.prog Tryd.f68 (LinePost n R w) Exit.ret a W := by
  have h1' : CnBlk (W.putObj bk (.deferred none)) B1 c := (World.putObj_heap_other hn.1).trans h1
  have h2' : Blk (W.putObj bk (.deferred none)) B2 29 #[er] := (World.putObj_heap_other hn.2.1).trans h2
  obtain ⟨g0, g1, g2, g3⟩ := h1'.cells
  have y0 := h2'.cell 0
  simp only [List.getElem?_toArray, List.getElem?_cons_zero] at y0
  show LeavesInM _ _ _ _ _ _ _ _ _
  rw [hd]
  refine ⟨by simp, .inl ⟨_, _, rfl, run_takeDeferred hk, ?_⟩⟩
  exact ⟨.tuple #[c.v, er], by simp [results, Tryd.f68, go_sem, t6, t7, g0, g1, g2, g3, y0], hb.trans (putObj_below _ _ _ hn.2.2), c, er, rfl, ha⟩
structure LnS (w wr : World) (z : Nat) (n : Int) (c : Cn) : Prop where
  t : LnT w wr n
  bc : CnBlk wr z c
  hz : w.heap.size + 3 ≤ z
theorem LnS.then_below {w wr w2 : World} {z : Nat} {n : Int} {c : Cn} (h : LnS w wr z n c) (hb : Below wr.heap.size wr w2) : LnS w w2 z n c := ⟨h.t.then_below hb, h.bc.below hb h.bc.lt, h.hz⟩
theorem LnS.belowB {w wr w2 : World} {z b : Nat} {n : Int} {c : Cn} (h : LnS w wr z n c) (hb : Below b wr w2) (hz : z < b) : LnS w w2 z n c := by
  have := h.hz
  exact ⟨⟨h.t.bn.below hb (by omega), h.t.r0.below hb (by omega), h.t.r1.below hb (by omega), h.t.below.trans (hb.mono (by omega))⟩, h.bc.below hb hz, h.hz⟩
theorem LnS.set_c {w wr : World} {z : Nat} {n : Int} {c c' : Cn} (h : LnS w wr z n c) :
    LnS w ((((wr.setCell ⟨z, 0, none⟩ (.int .i64 c'.b)).setCell ⟨z, 1, none⟩ (.int .i64 c'.h)).setCell ⟨z, 2, none⟩ (.int .i64 c'.r)).setCell ⟨z, 3, none⟩ (.int .i64 c'.l)) z n c' := by
  obtain ⟨h1, h2, h3⟩ := cn_set (y := c') h.bc
  have hz := h.hz
  exact ⟨⟨(h3 _ (by omega)).trans h.t.bn, (h3 _ (by omega)).trans h.t.r0, (h3 _ (by omega)).trans h.t.r1, h.t.below.trans (h2 _ (by omega))⟩, h1, hz⟩
structure LnL (w wr : World) (z y : Nat) (n : Int) (c cl : Cn) : Prop where
  s : LnS w wr z n c
  by_ : CnBlk wr y cl
  zy : z < y
theorem LnL.then_below {w wr w2 : World} {z y : Nat} {n : Int} {c cl : Cn} (h : LnL w wr z y n c cl) (hb : Below wr.heap.size wr w2) : LnL w w2 z y n c cl := ⟨h.s.then_below hb, h.by_.below hb h.by_.lt, h.zy⟩
theorem LnL.drew {w wr : World} {z y : Nat} {n : Int} {c cl : Cn} (h : LnL w wr z y n c cl) : LnL w wr.drew z y n c cl := h.then_below (ex_drew (Below.refl _ _))
def LnX (w : World) (n : Int) (R : List Int) (W : World) : Prop :=
  Below w.heap.size w W ∧ ∃ c er, CnBlk W (w.heap.size + 1) c ∧ Blk W (w.heap.size + 1 + 1) 29 #[er] ∧ LineR n R c er
theorem cn_new (w : World) : CnBlk (w.alloc (.cells #[.int .i64 0, .int .i64 0, .int .i64 0, .int .i64 0] 36)) w.heap.size Cn.zero := heap_alloc_new w _
theorem l_le {rs : List Int} {k : Nat} (h : rs.length ≤ k) : (cnt rs).l ≤ 4 * k := by
  obtain ⟨⟨b0, b1, h0, h1, r0, r1, l0, l1⟩, -, -⟩ := cnt_in rs
  omega
attribute [local go_sem] Oper.semAt_some Cn.v_eq field_cn3
set_option maxHeartbeats 8000000 in
theorem line_in {p : Nat} {t : RT} {w : World} {n : Int} (h : AtR w p t) (hg : Good t) (hn : 0 ≤ n ∧ n ≤ (cnt t.runes).l) :
    Calls Tryd.prog 68 #[.pointer (some ⟨p, 0, none⟩), .int .i64 n] w (LinePost n t.runes w) := by
  have HR := Hd.mk h
  have HG := Hd.mk hg
  have HN := Hd.mk hn
  have c0 := h.blk.cell 0
  have cl := h.blk.lt
  simp only [List.getElem?_toArray, List.getElem?_cons_zero, RT.ptr] at c0
  have i3 : ¬ n < 0 := by omega
  have d3 : decide (n < 0) = false := decide_eq_false i3
  have htl : t.runes.length ≤ 8000 := by have := bl_len t.runes; have := hg.sz; omega
  have HTL := Hd.mk htl
  obtain ⟨tot, htot⟩ : ∃ x, x = cnt t.runes := ⟨_, rfl⟩
  have HTOT := Hd.mk htot
  have i4 : ¬ tot.l < n := by rw [htot]; omega
  clear h hg hn htot htl
  refine (callsIn_wide (n := 6)).1 ?_
  refine callsIn_of_wp_marks Tryd.func68 rfl trivial ?_ rfl
  simp only [Tryd.ntmps68, List.size_toArray, List.length_cons, List.length_nil, Nat.reduceAdd, Nat.reduceSub, Array.replicate_succ, Array.replicate_zero, List.push_toArray, List.append_toArray, List.nil_append, List.cons_append]
  refine wpIn_wide.2 (Code.wp_mono NoPanic.imp ?_)
  go_wp2_with fail
  obtain ⟨s1, s2, s3, s4⟩ := three_new w n .nilIface _ rfl
  have hS : LnT w _ n := ⟨s4, s1, s2, s3⟩
  clear s1 s2 s3 s4
  generalize (((w.alloc (.cells #[.int .i64 n] 3)).alloc (.cells #[.int .i64 0, .int .i64 0, .int .i64 0, .int .i64 0] 36)).alloc (.cells #[.nilIface] 29)) = wa at hS ⊢
  have b0 := hS.bn.cell 0
  simp only [List.getElem?_toArray, List.getElem?_cons_zero] at b0
  have HS := Hd.mk hS
  clear hS
  have hc1 : ∀ d os, Calls Tryd.prog 61 #[.pointer (some ⟨p, 0, none⟩)] (grow (redrawn wa d) os) fun e w'' => e = .returned (.agg #[.int .i64 tot.b, .int .i64 tot.h, .int .i64 tot.r, .int .i64 tot.l]) ∧ ∃ p : Regrown, w'' = grow (redrawn wa p.d) p.os := fun d os => by rw [HTOT.out]; exact Calls.regrown_of (counts_calls (HR.out.below (bstep HS.out.below (below_regrown wa d os))))
  have kb0 := cell_regrown b0
  refine wp_region_quiet_below (by kernel_rfl) (by kernel_rfl) ?_
  repeat (quiet_step (first | exact hc1 _ _))
  refine wpQuiet_nil ?_
  rintro _ ⟨⟨dq, osq⟩, rfl⟩
  have HS2 := Hd.mk (HS.out.then_below (below_regrown wa dq osq))
  generalize grow (redrawn wa dq) osq = wb at HS2 ⊢
  clear hc1 kb0 b0 HS wa
  have hpb := (HR.out.below HS2.out.below).blk
  have p0 := hpb.cell 0
  have pl := hpb.lt
  simp only [List.getElem?_toArray, List.getElem?_cons_zero, RT.ptr] at p0
  clear hpb c0 cl
  go_wp2_with fail
  have hS0 : LnS w (wb.alloc (.cells #[.int .i64 0, .int .i64 0, .int .i64 0, .int .i64 0] 36)) wb.heap.size n Cn.zero := ⟨HS2.out.then_below (ex_alloc (Below.refl _ _) _), heap_alloc_new wb _, by have := HS2.out.r1.lt; omega⟩
  have hz0 := hS0.hz
  have HS0 := Hd.mk hS0
  clear hS0 p0 pl
  obtain ⟨z, hz⟩ : ∃ z, z = wb.heap.size := ⟨_, rfl⟩
  rw [← hz] at HS0 hz0 ⊢
  clear hz
  go_loopg [7] t.nodes.length (fun gk nv wr => ∃ (s : RT) (pre post : List Int), nv = s.ptr ∧ LnS w wr z n (cnt pre) ∧ AtT w s ∧ t.runes = pre ++ s.runes ++ post ∧ ((n = 0 ∧ pre = []) ∨ (cnt pre).l < n) ∧ n ≤ (cnt (pre ++ s.runes)).l ∧ s.nodes.length ≤ gk)
  case atStart =>
    refine ⟨t, [], [], rfl, HS0.out, HR.out.tree, by simp, ?_, by rw [List.nil_append]; exact HN.out.2, Nat.le_refl _⟩
    by_cases h0 : n = 0
    · exact .inl ⟨h0, rfl⟩
    · right; rw [cnt_nil]; show (0 : Int) < n; have := HN.out; omega
  case round =>
    obtain ⟨s, pre, post, rfl, hS, hat, hr, h1, h2, hgk⟩ := hrel
    have HSR := Hd.mk hS
    have HAT := Hd.mk hat
    have HRR := Hd.mk hr
    have HGK := Hd.mk hgk
    have b0 := hS.t.bn.cell 0
    simp only [List.getElem?_toArray, List.getElem?_cons_zero] at b0
    have bnl := hS.t.bn.lt
    by_cases h0 : n = 0
    · have hpre : pre = [] := by
        rcases h1 with h1 | h1
        · exact h1.2
        · have := l_nn pre; omega
      subst hpre
      have hn0 : ¬ (0 : Int) < n := by omega
      have HN0 := Hd.mk h0
      obtain ⟨q0, q1, q2, q3⟩ := hS.bc.cells
      have bcl := hS.bc.lt
      obtain ⟨z0, z1, z2, z3⟩ := hS.t.r0.cells
      have y0 := hS.t.r1.cell 0
      simp only [List.getElem?_toArray, List.getElem?_cons_zero] at y0
      have r0f := hS.t.r0.frozen
      have r1f := hS.t.r1.frozen
      have r0l := hS.t.r0.lt
      have r1l := hS.t.r1.lt
      clear hat hr h1 h2 hgk hS h0
      obtain ⟨ps, hps⟩ : ∃ x, x = s.pa := ⟨_, rfl⟩
      rw [RT.ptr, ← hps]
      clear hps
      cases ps with
      | none =>
        go_wp2_with fail
        obtain ⟨e1, e2, e3, -⟩ := ln_store HSR.out.t (cnt []) .nilIface _ rfl
        change bodyPostM Fence.wide 6 _ _ _ Exit.ret _ _
        exact ln_ret e1 e2 e3 ⟨fun e => by have := HN.out; omega, fun _ => ⟨rfl, [], t.runes, rfl, by rw [HN0.out]; rfl, rfl, .inl rfl⟩⟩ rfl rfl rfl
      | some ad =>
        go_wp2_with fail
        obtain ⟨e1, e2, e3, -⟩ := ln_store HSR.out.t (cnt []) .nilIface _ rfl
        change bodyPostM Fence.wide 6 _ _ _ Exit.ret _ _
        exact ln_ret e1 e2 e3 ⟨fun e => by have := HN.out; omega, fun _ => ⟨rfl, [], t.runes, rfl, by rw [HN0.out]; rfl, rfl, .inl rfl⟩⟩ rfl rfl rfl
    · have h1 : (cnt pre).l < n := h1.resolve_left (fun e => h0 e.1)
      have HL1 := Hd.mk h1
      have HL2 := Hd.mk h2
      have hnp : (0 : Int) < n := by have := l_nn pre; omega
      clear hat hr h1 h2 hgk hS h0
      cases s with
      | nil => exact absurd HL2.out (by have := HL1.out; simp only [RT.runes_nil, List.append_nil]; omega)
      | node g rs l r =>
        have hlr : pre.length + (l.runes.length + (rs.length + r.runes.length)) ≤ 8000 := by
          have h1 := HTL.out
          have h2 := HRR.out
          rw [h2] at h1
          simp only [RT.runes_node, List.length_append] at h1
          omega
        have HIN : Hd ((cnt pre).In 2305843009213693952 ∧ (cnt l.runes).In 2305843009213693952 ∧ (cnt rs).In 2305843009213693952 ∧ ((cnt pre).add (cnt l.runes)).In 2305843009213693952) := ⟨⟨cnt_big (by omega), cnt_big (by omega), cnt_big (by omega), by rw [← cnt_append]; exact cnt_big (by simp; omega)⟩⟩
        have bc1 : 0 ≤ (cnt pre).l ∧ (cnt pre).l ≤ 32000 := ⟨l_nn _, by have := l_le (rs := pre) (k := 8000) (by omega); omega⟩
        have bl1 : 0 ≤ (cnt l.runes).l ∧ (cnt l.runes).l ≤ 32000 := ⟨l_nn _, by have := l_le (rs := l.runes) (k := 8000) (by omega); omega⟩
        have bo1 : 0 ≤ (cnt rs).l ∧ (cnt rs).l ≤ 32000 := ⟨l_nn _, by have := l_le (rs := rs) (k := 8000) (by omega); omega⟩
        have ba1 : 0 ≤ n ∧ n ≤ 32000 := ⟨HN.out.1, by have h1 := HN.out.2; have := l_le (rs := t.runes) (k := 8000) HTL.out; omega⟩
        obtain ⟨bc1, bc2⟩ := bc1
        obtain ⟨bl1, bl2⟩ := bl1
        obtain ⟨bo1, bo2⟩ := bo1
        obtain ⟨ba1, ba2⟩ := ba1
        clear hlr
        have hgb := HAT.out.1.below HSR.out.t.below HAT.out.1.lt
        obtain ⟨-, -, -, -, -, -, -, -, -, c9, -, -⟩ := nodeV_cell hgb
        have gl := hgb.lt
        simp only [RT.ptr] at c9
        rw [RT.ptr_node]
        clear hgb
        go_upto_region 7 with (go_at_call 111; refine (all_calls (t := l) (HAT.out.2.1.below HSR.out.t.below)).mono ?_; rintro e w1 ⟨rfl, hb1⟩; have HS1 := Hd.mk (HSR.out.then_below hb1); clear hb1)
        have hSa := HS1.out.then_below (ex_alloc (Below.refl _ _) (.cells #[.int .i64 (cnt l.runes).b, .int .i64 (cnt l.runes).h, .int .i64 (cnt l.runes).r, .int .i64 (cnt l.runes).l] 36))
        have hYa : CnBlk _ w1.heap.size (cnt l.runes) := heap_alloc_new w1 _
        have hyz : z < w1.heap.size := HS1.out.bc.lt
        obtain ⟨y, hy⟩ : ∃ y, y = w1.heap.size := ⟨_, rfl⟩
        rw [← hy] at hYa hyz ⊢
        generalize w1.alloc (.cells #[.int .i64 (cnt l.runes).b, .int .i64 (cnt l.runes).h, .int .i64 (cnt l.runes).r, .int .i64 (cnt l.runes).l] 36) = wa at hSa hYa ⊢
        clear hy HS1 HSR b0 bnl c9 gl w1
        have HY := Hd.mk (LnL.mk hSa hYa hyz)
        clear hSa hYa
        obtain ⟨q0, q1, q2, q3⟩ := HY.out.s.bc.cells
        obtain ⟨l0, l1, l2, l3⟩ := HY.out.by_.cells
        have b0 := HY.out.s.t.bn.cell 0
        simp only [List.getElem?_toArray, List.getElem?_cons_zero] at b0
        have hgx := HAT.out.1.below HY.out.s.t.below HAT.out.1.lt
        obtain ⟨n0, n1, n2, n3, n4, -, -, -, -, n9, n10, -⟩ := nodeV_cell hgx
        have gl := hgx.lt
        simp only [RT.ptr] at n9 n10
        have bnl := HY.out.s.t.bn.lt
        have bcl := HY.out.s.bc.lt
        have bll := HY.out.by_.lt
        have bcf := HY.out.s.bc.frozen
        clear hgx
        have hw1 : IntKind.i64.wrap (n - (cnt pre).l) = n - (cnt pre).l := by rw [IntKind.wrap_i64] <;> omega
        have hw2 : IntKind.i64.wrap ((cnt l.runes).l + (cnt rs).l) = (cnt l.runes).l + (cnt rs).l := by rw [IntKind.wrap_i64] <;> omega
        by_cases hk : n - (cnt pre).l ≤ (cnt l.runes).l
        · go_wp2_with fail
          go_roundg l.nodes.length
          case rel => exact ⟨l, pre, rs ++ r.runes ++ post, rfl, HY.out.s, HAT.out.2.1, by rw [HRR.out]; simp, .inr HL1.out, by rw [cnt_app_l]; omega, Nat.le_refl _⟩
          case measure => have := HGK.out; simp only [RT.nodes_node, List.length_append, List.length_cons] at this; omega
        · go_wp2_with fail
          go_quiet (fail)
          have HY4 := Hd.mk (HY.out.then_below (ex_drewN nq (Below.refl _ _)))
          generalize wa.drewN nq = w4 at HY4 ⊢
          clear q0 q1 q2 q3 l0 l1 l2 l3 b0 n0 n1 n2 n3 n4 n9 n10 gl bnl bcl bll bcf
          clear HY wa
          obtain ⟨q0, q1, q2, q3⟩ := HY4.out.s.bc.cells
          obtain ⟨l0, l1, l2, l3⟩ := HY4.out.by_.cells
          have b0 := HY4.out.s.t.bn.cell 0
          simp only [List.getElem?_toArray, List.getElem?_cons_zero] at b0
          have hgx := HAT.out.1.below HY4.out.s.t.below HAT.out.1.lt
          obtain ⟨n0, n1, n2, n3, n4, -, -, -, -, n9, n10, -⟩ := nodeV_cell hgx
          have gl := hgx.lt
          simp only [RT.ptr] at n9 n10
          have bnl := HY4.out.s.t.bn.lt
          have bcl := HY4.out.s.bc.lt
          have bll := HY4.out.by_.lt
          have bcf := HY4.out.s.bc.frozen
          clear hgx
          by_cases hk2 : (cnt l.runes).l + (cnt rs).l < n - (cnt pre).l
          · go_wp2_with fail
            go_region_with (first
              | (go_at_call_of 25 (cnt rs); refine (plus_calls ((cnt pre).add (cnt l.runes)) (cnt rs) _ HIN.out.2.2.2 HIN.out.2.2.1).mono ?_; rintro e w6 ⟨rfl, hb6⟩; have HY6 := Hd.mk (HY5.out.then_below hb6); clear hb6; obtain ⟨q0, q1, q2, q3⟩ := HY6.out.s.bc.cells; obtain ⟨l0, l1, l2, l3⟩ := HY6.out.by_.cells; have b0 := HY6.out.s.t.bn.cell 0; simp only [List.getElem?_toArray, List.getElem?_cons_zero] at b0; have hgx := HAT.out.1.below HY6.out.s.t.below HAT.out.1.lt; obtain ⟨n0, n1, n2, n3, n4, -, -, -, -, n9, n10, -⟩ := nodeV_cell hgx; have gl := hgx.lt; simp only [RT.ptr] at n9 n10; have bnl := HY6.out.s.t.bn.lt; have bcl := HY6.out.s.bc.lt; have bll := HY6.out.by_.lt; have bcf := HY6.out.s.bc.frozen; clear hgx)
              | (go_at_call_of 25 (cnt l.runes); refine (plus_calls (cnt pre) (cnt l.runes) _ HIN.out.1 HIN.out.2.1).mono ?_; rintro e w5 ⟨rfl, hb5⟩; have HY5 := Hd.mk (HY4.out.drew.then_below hb5); clear hb5; obtain ⟨q0, q1, q2, q3⟩ := HY5.out.s.bc.cells; obtain ⟨l0, l1, l2, l3⟩ := HY5.out.by_.cells; have b0 := HY5.out.s.t.bn.cell 0; simp only [List.getElem?_toArray, List.getElem?_cons_zero] at b0; have hgx := HAT.out.1.below HY5.out.s.t.below HAT.out.1.lt; obtain ⟨n0, n1, n2, n3, n4, -, -, -, -, n9, n10, -⟩ := nodeV_cell hgx; have gl := hgx.lt; simp only [RT.ptr] at n9 n10; have bnl := HY5.out.s.t.bn.lt; have bcl := HY5.out.s.bc.lt; have bll := HY5.out.by_.lt; have bcf := HY5.out.s.bc.frozen; clear hgx))
            all_goals
              have HS7 := Hd.mk (HY6.out.s.set_c (c' := ((cnt pre).add (cnt l.runes)).add (cnt rs)))
              generalize ((((w6.setCell ⟨z, 0, none⟩ (.int .i64 (((cnt pre).add (cnt l.runes)).add (cnt rs)).b)).setCell ⟨z, 1, none⟩ (.int .i64 (((cnt pre).add (cnt l.runes)).add (cnt rs)).h)).setCell ⟨z, 2, none⟩ (.int .i64 (((cnt pre).add (cnt l.runes)).add (cnt rs)).r)).setCell ⟨z, 3, none⟩ (.int .i64 (((cnt pre).add (cnt l.runes)).add (cnt rs)).l)) = w7 at HS7 ⊢
              have hg7 := HAT.out.1.below HS7.out.t.below HAT.out.1.lt
              clear q0 q1 q2 q3 l0 l1 l2 l3 b0 n0 n1 n2 n3 n4 n9 n10 gl bnl bcl bll bcf
              obtain ⟨-, -, -, -, -, -, -, -, -, -, n10, -⟩ := nodeV_cell hg7
              have gl := hg7.lt
              simp only [RT.ptr] at n10
              clear hg7
              go_wp2_with fail
              go_roundg r.nodes.length
              case rel => exact ⟨r, pre ++ l.runes ++ rs, post, rfl, by rw [cnt_append, cnt_append]; exact HS7.out, HAT.out.2.2, by rw [HRR.out]; simp, .inr (by rw [cnt_app_l, cnt_app_l]; omega), by have := HL2.out; simp only [RT.runes_node, ← List.append_assoc] at this; exact this, Nat.le_refl _⟩
              case measure => have := HGK.out; simp only [RT.nodes_node, List.length_append, List.length_cons] at this; omega
          · go_upto_region 14 with (first
              | (go_at_call 25; refine (plus_calls (cnt pre) (cnt l.runes) _ HIN.out.1 HIN.out.2.1).mono ?_; rintro e w5 ⟨rfl, hb5⟩; have HS5 := Hd.mk (HY4.out.s.then_below hb5); clear hb5; clear q0 q1 q2 q3 l0 l1 l2 l3 b0 n0 n1 n2 n3 n4 n9 n10 gl bnl bcl bll bcf; obtain ⟨q0, q1, q2, q3⟩ := HS5.out.bc.cells; have bcf := HS5.out.bc.frozen; have bcl := HS5.out.bc.lt))
            have HS6 := Hd.mk (HS5.out.set_c (c' := (cnt pre).add (cnt l.runes)))
            generalize ((((w5.setCell ⟨z, 0, none⟩ (.int .i64 ((cnt pre).add (cnt l.runes)).b)).setCell ⟨z, 1, none⟩ (.int .i64 ((cnt pre).add (cnt l.runes)).h)).setCell ⟨z, 2, none⟩ (.int .i64 ((cnt pre).add (cnt l.runes)).r)).setCell ⟨z, 3, none⟩ (.int .i64 ((cnt pre).add (cnt l.runes)).l)) = w6 at HS6 ⊢
            clear q0 q1 q2 q3 bcf bcl HS5 HY4 w4
            have hg6 := HAT.out.1.below HS6.out.t.below HAT.out.1.lt
            obtain ⟨n0, -⟩ := nodeV_cell hg6
            have gl := hg6.lt
            clear hg6
            go_wp2_with (go_at_call 24; refine (walk_calls (U.encs rs) _).mono ?_; rintro e w' ⟨rfl, rfl⟩)
            have HPC : Hd ((cnt pre).add (cnt l.runes) = cnt (pre ++ l.runes)) := ⟨(cnt_append _ _).symm⟩
            rw [HPC.out] at HS6
            have HRX : Hd (t.runes = (pre ++ l.runes) ++ (rs ++ (r.runes ++ post))) := ⟨by rw [HRR.out]; simp⟩
            have HVP : Hd ((cnt (pre ++ l.runes)).l < n ∧ n ≤ (cnt ((pre ++ l.runes) ++ rs)).l) := ⟨by rw [cnt_app_l, cnt_app_l, cnt_app_l]; omega⟩
            have HLP : Hd ((pre ++ l.runes).length + rs.length ≤ 8000) := ⟨by have h1 := HTL.out; rw [HRX.out] at h1; simp only [List.length_append] at h1 ⊢; omega⟩
            have HALL : Hd (U.AllR rs) := ⟨fun x hx => HG.out.all x (by rw [HRX.out]; simp [hx])⟩
            generalize pre ++ l.runes = p2 at *
            have hSB : Blk (w6.alloc (.cells #[.string ⟨(U.encs rs).toArray⟩] 9)) w6.heap.size 9 #[.string ⟨(U.encs rs).toArray⟩] := Blk.new _ _ _
            have hS7 := HS6.out.then_below (ex_alloc (Below.refl _ _) (.cells #[.string ⟨(U.encs rs).toArray⟩] 9))
            have hz6 : z < w6.heap.size := HS6.out.bc.lt
            generalize hsb : w6.heap.size = sB at *
            generalize w6.alloc (.cells #[.string ⟨(U.encs rs).toArray⟩] 9) = wz at hSB hS7 ⊢
            have hsz := hSB.lt
            have HSB := Hd.mk hSB
            have HS7 := Hd.mk hS7
            clear hSB hS7 HS6 hsb w6 n0 gl
            refine (wpIn_wide (n := 6)).1 ?_
            have HSPP : Hd (U.Sp (U.encs rs) rs []) := ⟨U.sp_encs HALL.out⟩
            have hel : (U.encs rs).length ≤ 1000000 := by have h1 := HG.out.sz; rw [HRX.out] at h1; simp only [bl_append] at h1; have : (U.encs rs).length = bl rs := rfl; omega
            refine range_l (gf := 76) (lb := #[.pointer (some ⟨sB, 0, none⟩)]) (xs := fun k => #[(cnt (rs.take k)).v, (oneC (rs[k]?.getD 0) (U.wid (rs[k]?.getD 0))).v]) (N := rs.length) (iB := z) rfl (enters_of Tryd.func76 (by kernel_rfl) rfl) (by omega)
              (fun l J Jx W hb hJ hY h0 => walk1_in 5 l sB z HSPP.out hel J Jx W (by omega) (HSB.out.below hb HSB.out.lt) (by have := hb.size; omega) (by omega) hJ (fun k A hk hj => by have := hY k A hk hj; simpa [hk] using this) h0)
              (fun _ => rfl) (fun k W => Below wz.heap.size wz W ∧ (cnt (p2 ++ rs.take k)).l < n) (LnX w n t.runes)
              (fun k A B h hb => ⟨h.1.trans (hb.mono (by omega)), h.2⟩) ?hx ⟨Below.refl _ _, ?h0⟩ ?round ?done ?left
            case hx =>
              rintro A B ⟨h1, c, er, h2, h3, h4⟩ hb
              have := HS7.out.hz
              exact ⟨h1.trans (hb.mono (by omega)), c, er, h2.below hb (by omega), h3.below hb (by omega), h4⟩
            case h0 => rw [List.take_zero, List.append_nil]; exact HVP.out.1
            case done =>
              rintro W ⟨hbW, hvW⟩ hD
              rw [List.take_length] at hvW
              exact absurd HVP.out.2 (by omega)
            case left =>
              rintro W ⟨hbW, c, er, h1, h2, h3⟩ hD
              have hzz : w.heap.size + 3 ≤ z := HS7.out.hz
              change bodyPostM Fence.wide 6 _ _ _ Exit.ret _ _
              exact ln_ret1 h1 h2 hbW h3 rfl rfl rfl hD ⟨by omega, by omega, by omega⟩
            case round =>
              rintro lo k W hk ⟨hbW, hvx⟩ hlt
              gi_wp2_with fail
              refine ⟨ex_alloc (ex_alloc (Below.refl _ _) _) _, fun o => ?_⟩
              have HCS : Hd (cnt (p2 ++ rs.take (k + 1)) = (cnt (p2 ++ rs.take k)).add (oneC rs[k] (U.wid rs[k]))) := ⟨by rw [List.take_succ_eq_append_getElem hk, ← List.append_assoc, cnt_snoc]⟩
              have HCA : Hd ((cnt p2).add (cnt (rs.take k)) = cnt (p2 ++ rs.take k)) := ⟨(cnt_append _ _).symm⟩
              have HTK : Hd (rs.take (k + 1) = rs.take k ++ [rs[k]]) := ⟨List.take_succ_eq_append_getElem hk⟩
              have htk : (rs.take k).length ≤ rs.length := by rw [List.length_take]; omega
              have HCI : Hd ((cnt p2).In 2305843009213693952 ∧ (cnt (rs.take k)).In 2305843009213693952 ∧ (cnt (p2 ++ rs.take k)).In 2305843009213693952 ∧ (oneC rs[k] (U.wid rs[k])).In 2305843009213693952) := ⟨⟨cnt_big (by have := HLP.out; omega), cnt_big (by have := HLP.out; omega), cnt_big (by have := HLP.out; simp only [List.length_append]; omega), by
                obtain ⟨b0, b1, h0, h1, r0, r1, l0, l1⟩ := oneC_in rs[k]
                exact ⟨b0, by omega, h0, by omega, r0, by omega, l0, by omega⟩⟩⟩
              have HOL : Hd ((oneC rs[k] (U.wid rs[k])).l = if rs[k] = 10 then 1 else 0) := ⟨rfl⟩
              have HVX := Hd.mk hvx
              clear hvx htk
              generalize hrk : rs[k] = rk at *
              have HRK := Hd.mk hrk
              clear hrk
              generalize cnt (rs.take k) = cx at *
              generalize hox : oneC rk (U.wid rk) = ox at *
              clear hox
              have hA : CnBlk (((W.alloc (.cells #[.int .i64 cx.b, .int .i64 cx.h, .int .i64 cx.r, .int .i64 cx.l] 36)).alloc (.cells #[.int .i64 ox.b, .int .i64 ox.h, .int .i64 ox.r, .int .i64 ox.l] 36)).putObj (wz.heap.size + 1) o) W.heap.size cx := (World.putObj_heap_other (by omega)).trans ((Blk.new W 36 _).alloc _)
              have hO : CnBlk (((W.alloc (.cells #[.int .i64 cx.b, .int .i64 cx.h, .int .i64 cx.r, .int .i64 cx.l] 36)).alloc (.cells #[.int .i64 ox.b, .int .i64 ox.h, .int .i64 ox.r, .int .i64 ox.l] 36)).putObj (wz.heap.size + 1) o) (W.heap.size + 1) ox := (World.putObj_heap_other (by omega)).trans (by
                have h := heap_alloc_new (W.alloc (.cells #[.int .i64 cx.b, .int .i64 cx.h, .int .i64 cx.r, .int .i64 cx.l] 36)) (.cells #[.int .i64 ox.b, .int .i64 ox.h, .int .i64 ox.r, .int .i64 ox.l] 36)
                rw [World.size_alloc] at h; exact h)
              have hB : Below wz.heap.size wz (((W.alloc (.cells #[.int .i64 cx.b, .int .i64 cx.h, .int .i64 cx.r, .int .i64 cx.l] 36)).alloc (.cells #[.int .i64 ox.b, .int .i64 ox.h, .int .i64 ox.r, .int .i64 ox.l] 36)).putObj (wz.heap.size + 1) o) := hbW.trans (((ex_alloc (ex_alloc (Below.refl W.heap.size W) _) _).mono (by omega)).trans (putObj_below _ _ _ (by omega)))
              have hq2 : W.heap.size + 1 < (((W.alloc (.cells #[.int .i64 cx.b, .int .i64 cx.h, .int .i64 cx.r, .int .i64 cx.l] 36)).alloc (.cells #[.int .i64 ox.b, .int .i64 ox.h, .int .i64 ox.r, .int .i64 ox.l] 36)).putObj (wz.heap.size + 1) o).heap.size := by simp
              generalize (((W.alloc (.cells #[.int .i64 cx.b, .int .i64 cx.h, .int .i64 cx.r, .int .i64 cx.l] 36)).alloc (.cells #[.int .i64 ox.b, .int .i64 ox.h, .int .i64 ox.r, .int .i64 ox.l] 36)).putObj (wz.heap.size + 1) o) = wq at *
              generalize W.heap.size = q at *
              clear hbW
              have HSq := Hd.mk (HS7.out.belowB hB (by omega))
              have HA' := Hd.mk hA
              have HO' := Hd.mk hO
              have HB' := Hd.mk hB
              clear hA hO hB
              gi_upto_region 17 with fail
              have HXV : Hd ((cnt (p2 ++ rs.take k)).add ox = (cnt (p2 ++ rs.take k)).add ox) := ⟨rfl⟩
              gi_cut [12] from 85 (fun xv wx => ∃ xb, xv = .pointer (some ⟨xb, 0, none⟩) ∧ q + 1 < xb ∧ CnBlk wx xb (((cnt p2).add cx).add ox) ∧ LnS w wx z n (cnt p2) ∧ CnBlk wx (q + 1) ox ∧ Below wq.heap.size wq wx)
              case first =>
                obtain ⟨a0, a1, a2, a3⟩ := HA'.out.cells
                obtain ⟨o0, o1, o2, o3⟩ := HO'.out.cells
                obtain ⟨q0, q1, q2, q3⟩ := HSq.out.bc.cells
                have bcl := HSq.out.bc.lt
                have hql : q < wq.heap.size := by omega
                have HCI2 : Hd (((cnt p2).add cx).In 2305843009213693952) := ⟨by rw [HCA.out]; exact HCI.out.2.2.1⟩
                refine round_held (S := fun w' => Below wq.heap.size wq w') (by kernel_rfl) (by kernel_rfl) ?_ (ex_drew (Below.refl _ _)) (fun hSd => ?_)
                · rintro ⟨a', w', hh⟩
                  rcases hh with ⟨hh, -⟩ | ⟨hh, -⟩ <;> cases hh
                clear a0 a1 a2 a3 o0 o1 o2 o3 q0 q1 q2 q3
                refine wpAnyH_take (i := 0) (v := .agg #[.int .i64 (cnt p2).b, .int .i64 (cnt p2).h, .int .i64 (cnt p2).r, .int .i64 (cnt p2).l]) rfl (by kernel_rfl) (by kernel_rfl) (by kernel_rfl) (fun _ _ _ h => h) (Or.inl ⟨by rfl, ?_⟩) hSd ?_
                · intro w' hw'
                  obtain ⟨m0, m1, m2, m3⟩ := (CnBlk.below HSq.out.bc hw' (by omega)).cells
                  go_simp
                try simp only [Act.put, List.setIfInBounds_toArray]
                refine wpAnyH_take (i := 1) (v := .agg #[.int .i64 cx.b, .int .i64 cx.h, .int .i64 cx.r, .int .i64 cx.l]) rfl (by kernel_rfl) (by kernel_rfl) (by kernel_rfl) (fun _ _ _ h => h) (Or.inl ⟨by rfl, ?_⟩) hSd ?_
                · intro w' hw'
                  obtain ⟨m0, m1, m2, m3⟩ := (CnBlk.below HA'.out hw' (by omega)).cells
                  go_simp
                try simp only [Act.put]
                refine wpAnyH_take (i := 3) (v := .agg #[.int .i64 ox.b, .int .i64 ox.h, .int .i64 ox.r, .int .i64 ox.l]) rfl (by kernel_rfl) (by kernel_rfl) (by kernel_rfl) (fun _ _ _ h => h) (Or.inl ⟨by rfl, ?_⟩) hSd ?_
                · intro w' hw'
                  obtain ⟨m0, m1, m2, m3⟩ := (CnBlk.below HO'.out hw' (by omega)).cells
                  go_simp
                try simp only [Act.put]
                refine wpAnyH_ready (rs := [2, 5]) (by kernel_rfl) (by simp) (AllReadyH.cons rfl (fun K hK => ?_) (AllReadyH.cons rfl (fun K hK => ?_) AllReadyH.nil))
                · go_simp
                  refine (plus_calls (cnt p2) cx _ HCI.out.1 HCI.out.2.1).mono ?_
                  rintro e w7 ⟨rfl, hb7⟩
                  have hS7 := bstep hSd hb7
                  refine hK.out _ _ hS7 (fun _ => ?_)
                  clear hK K
                  try simp only [Act.put, List.setIfInBounds_toArray, List.set_cons_zero, List.set_cons_succ]
                  refine wpAnyH_ready (rs := [4, 5]) (by kernel_rfl) (by simp) (AllReadyH.cons rfl (fun K hK => ?_) (AllReadyH.cons rfl (fun K hK => ?_) AllReadyH.nil))
                  · go_simp
                    refine (plus_calls ((cnt p2).add cx) ox _ HCI2.out HCI.out.2.2.2).mono ?_
                    rintro e w8 ⟨rfl, hb8⟩
                    have hS8 := bstep hS7 hb8
                    refine hK.out _ _ hS8 (fun _ => ?_)
                    clear hK K
                    try simp only [Act.put, List.setIfInBounds_toArray, List.set_cons_zero, List.set_cons_succ]
                    refine wpAnyH_ready (rs := [5]) (by kernel_rfl) (by simp) (AllReadyH.cons rfl (fun K hK => ?_) AllReadyH.nil)
                    go_simp
                    have hS9 := ex_alloc hS8 (.cells #[.int .i64 0, .int .i64 0, .int .i64 0, .int .i64 0] 36)
                    refine hK.out _ _ hS9 (fun _ => ?_)
                    clear hK K
                    try simp only [Act.put, List.setIfInBounds_toArray, List.set_cons_zero, List.set_cons_succ]
                    refine wpAnyH_ready (rs := [6]) (by kernel_rfl) (by simp) (AllReadyH.cons rfl (fun K hK => ?_) AllReadyH.nil)
                    have HF1 : Hd (CnBlk (w8.alloc (.cells #[.int .i64 (((cnt p2).add cx).add ox).b, .int .i64 (((cnt p2).add cx).add ox).h, .int .i64 (((cnt p2).add cx).add ox).r, .int .i64 (((cnt p2).add cx).add ox).l] 36)) w8.heap.size (((cnt p2).add cx).add ox)) := ⟨heap_alloc_new w8 _⟩
                    have HSf := Hd.mk (ex_alloc hS8 (.cells #[.int .i64 (((cnt p2).add cx).add ox).b, .int .i64 (((cnt p2).add cx).add ox).h, .int .i64 (((cnt p2).add cx).add ox).r, .int .i64 (((cnt p2).add cx).add ox).l] 36))
                    have hxq : wq.heap.size ≤ w8.heap.size := hS8.size
                    go_simp
                    refine hK.out _ _ HSf.out (fun _ => ?_)
                    refine wpAnyH_done (by kernel_rfl) ?_ _
                    clear hK K
                    gi_wp2_with fail
                    gi_meet
                    exact ⟨_, rfl, by omega, HF1.out, HSq.out.then_below HSf.out, HO'.out.below HSf.out HO'.out.lt, HSf.out⟩
                  · go_simp
                    have hS9 := ex_alloc hS7 (.cells #[.int .i64 0, .int .i64 0, .int .i64 0, .int .i64 0] 36)
                    refine hK.out _ _ hS9 (fun _ => ?_)
                    clear hK K
                    try simp only [Act.put, List.setIfInBounds_toArray, List.set_cons_zero, List.set_cons_succ]
                    refine wpAnyH_ready (rs := [4]) (by kernel_rfl) (by simp) (AllReadyH.cons rfl (fun K hK => ?_) AllReadyH.nil)
                    go_simp
                    refine (plus_calls ((cnt p2).add cx) ox _ HCI2.out HCI.out.2.2.2).mono ?_
                    rintro e w8 ⟨rfl, hb8⟩
                    have hS8 := bstep hS9 hb8
                    refine hK.out _ _ hS8 (fun _ => ?_)
                    clear hK K
                    try simp only [Act.put, List.setIfInBounds_toArray, List.set_cons_zero, List.set_cons_succ]
                    refine wpAnyH_ready (rs := [6]) (by kernel_rfl) (by simp) (AllReadyH.cons rfl (fun K hK => ?_) AllReadyH.nil)
                    have hX := (CnBlk.below (cn_new w7) hb8 (by simp))
                    have hxq : wq.heap.size ≤ w7.heap.size := hS7.size
                    obtain ⟨y0, y1, y2, y3⟩ := hX.cells
                    have yf := hX.frozen
                    have yl := hX.lt
                    obtain ⟨f1, f2, f3⟩ := cn_set (y := ((cnt p2).add cx).add ox) hX
                    have hSf := hS8.trans (f2 wq.heap.size hxq)
                    have HF1 := Hd.mk f1
                    have HSf := Hd.mk hSf
                    clear f1 f2 f3 hX hSf
                    go_simp
                    refine hK.out _ _ HSf.out (fun _ => ?_)
                    refine wpAnyH_done (by kernel_rfl) ?_ _
                    clear hK K
                    gi_wp2_with fail
                    gi_meet
                    exact ⟨_, rfl, by omega, HF1.out, HSq.out.then_below HSf.out, HO'.out.below HSf.out HO'.out.lt, HSf.out⟩
                · go_simp
                  have hS9 := ex_alloc hSd (.cells #[.int .i64 0, .int .i64 0, .int .i64 0, .int .i64 0] 36)
                  refine hK.out _ _ hS9 (fun _ => ?_)
                  clear hK K
                  try simp only [Act.put, List.setIfInBounds_toArray, List.set_cons_zero, List.set_cons_succ]
                  refine wpAnyH_ready (rs := [2]) (by kernel_rfl) (by simp) (AllReadyH.cons rfl (fun K hK => ?_) AllReadyH.nil)
                  go_simp
                  refine (plus_calls (cnt p2) cx _ HCI.out.1 HCI.out.2.1).mono ?_
                  rintro e w7 ⟨rfl, hb7⟩
                  have hS7 := bstep hS9 hb7
                  refine hK.out _ _ hS7 (fun _ => ?_)
                  clear hK K
                  try simp only [Act.put, List.setIfInBounds_toArray, List.set_cons_zero, List.set_cons_succ]
                  refine wpAnyH_ready (rs := [4]) (by kernel_rfl) (by simp) (AllReadyH.cons rfl (fun K hK => ?_) AllReadyH.nil)
                  go_simp
                  refine (plus_calls ((cnt p2).add cx) ox _ HCI2.out HCI.out.2.2.2).mono ?_
                  rintro e w8 ⟨rfl, hb8⟩
                  have hS8 := bstep hS7 hb8
                  refine hK.out _ _ hS8 (fun _ => ?_)
                  clear hK K
                  try simp only [Act.put, List.setIfInBounds_toArray, List.set_cons_zero, List.set_cons_succ]
                  refine wpAnyH_ready (rs := [6]) (by kernel_rfl) (by simp) (AllReadyH.cons rfl (fun K hK => ?_) AllReadyH.nil)
                  have hX : CnBlk w8 wq.heap.size Cn.zero := CnBlk.below (CnBlk.below (w := (wq.alloc (.cells #[.int .i64 0, .int .i64 0, .int .i64 0, .int .i64 0] 36)).drew) (cn_new wq) hb7 (by show wq.heap.size < (wq.alloc (.cells #[.int .i64 0, .int .i64 0, .int .i64 0, .int .i64 0] 36)).heap.size; rw [World.size_alloc]; omega)) hb8 (by have h : (wq.alloc (.cells #[.int .i64 0, .int .i64 0, .int .i64 0, .int .i64 0] 36)).heap.size ≤ w7.heap.size := hb7.size; rw [World.size_alloc] at h; exact h)
                  have hxq : wq.heap.size ≤ wq.heap.size := Nat.le_refl _
                  obtain ⟨y0, y1, y2, y3⟩ := hX.cells
                  have yf := hX.frozen
                  have yl := hX.lt
                  obtain ⟨f1, f2, f3⟩ := cn_set (y := ((cnt p2).add cx).add ox) hX
                  have hSf := hS8.trans (f2 wq.heap.size hxq)
                  have HF1 := Hd.mk f1
                  have HSf := Hd.mk hSf
                  clear f1 f2 f3 hX hSf
                  go_simp
                  refine hK.out _ _ HSf.out (fun _ => ?_)
                  refine wpAnyH_done (by kernel_rfl) ?_ _
                  clear hK K
                  gi_wp2_with fail
                  gi_meet
                  exact ⟨_, rfl, by omega, HF1.out, HSq.out.then_below HSf.out, HO'.out.below HSf.out HO'.out.lt, HSf.out⟩
              case rest =>
                obtain ⟨xb, rfl, hqx, hX, hSc, hOc, hBc⟩ := hcut
                have HXC : Hd (((cnt p2).add cx).add ox = cnt (p2 ++ rs.take (k + 1))) := ⟨by rw [HCS.out, HCA.out]⟩
                have HRX2 : Hd (t.runes = (p2 ++ rs.take (k + 1)) ++ (rs.drop (k + 1) ++ (r.runes ++ post))) := ⟨by rw [HRX.out]; simp only [List.append_assoc]; rw [← List.append_assoc (rs.take (k + 1)), List.take_append_drop]⟩
                have HXL : Hd ((((cnt p2).add cx).add ox).l = (cnt (p2 ++ rs.take k)).l + ox.l) := ⟨by rw [HCA.out]; rfl⟩
                generalize ((cnt p2).add cx).add ox = xv at *
                have HXc := Hd.mk hX
                have HSc := Hd.mk hSc
                have HOc := Hd.mk hOc
                have HBc := Hd.mk hBc
                obtain ⟨x0, x1, x2, x3⟩ := hX.cells
                obtain ⟨-, -, -, o3⟩ := hOc.cells
                have b0 := hSc.t.bn.cell 0
                simp only [List.getElem?_toArray, List.getElem?_cons_zero] at b0
                have hzz : w.heap.size + 3 ≤ z := hSc.hz
                have hlt2 := hlt
                clear hX hSc hOc hBc
                by_cases hr10 : rk = 10
                · have hol : ox.l = 1 := by rw [HOL.out, if_pos hr10]
                  have HOL1 := Hd.mk hol
                  have hob : (ox.l == 1) = true := by rw [hol]; rfl
                  clear hol
                  by_cases hxn : xv.l = n
                  · have hxb : (xv.l == n) = true := by rw [hxn]; exact beq_self_eq_true _
                    obtain ⟨z0, z1, z2, z3⟩ := HSc.out.t.r0.cells
                    have y0 := HSc.out.t.r1.cell 0
                    simp only [List.getElem?_toArray, List.getElem?_cons_zero] at y0
                    have r0f := HSc.out.t.r0.frozen
                    have r1f := HSc.out.t.r1.frozen
                    have r0l := HSc.out.t.r0.lt
                    have r1l := HSc.out.t.r1.lt
                    have HXN := Hd.mk hxn
                    clear hxn
                    gi_wp2_with fail
                    obtain ⟨e1, e2, e3, e4, e5⟩ := ln_store HSc.out.t xv .nilIface _ rfl
                    refine .inr ⟨rfl, ⟨e3, xv, .nilIface, e1, e2, ?_⟩, by have := HBc.out.size; exact Nat.le_trans this (Nat.le_of_eq e5.symm), fun b hb => ?_⟩
                    · exact ⟨fun e => by have := HN.out; omega, fun _ => ⟨rfl, p2 ++ rs.take (k + 1), _, HRX2.out, by rw [← HXC.out]; exact HXN.out, HXC.out, .inr ⟨p2 ++ rs.take k, by rw [HTK.out, hr10]; simp⟩⟩⟩
                    · exact (e4 b (by omega) (by omega)).trans (HBc.out.block b (by omega))
                  · have hxb : (xv.l == n) = false := by rw [beq_eq_false_iff_ne]; exact hxn
                    gi_wp2_with fail
                    refine .inl ⟨rfl, ⟨HB'.out.trans (HBc.out.mono HB'.out.size), ?_⟩, HBc.out.size, fun b hb _ => HBc.out.block b hb⟩
                    have h1 := HXL.out
                    have h2 := HVX.out
                    have h3 := HOL1.out
                    rw [← HXC.out]; omega
                · have hol : ox.l = 0 := by rw [HOL.out, if_neg hr10]
                  have HOL1 := Hd.mk hol
                  have hob : (ox.l == 1) = false := by rw [hol]; rfl
                  clear hol
                  gi_wp2_with fail
                  refine .inl ⟨rfl, ⟨HB'.out.trans (HBc.out.mono HB'.out.size), ?_⟩, HBc.out.size, fun b hb _ => HBc.out.block b hb⟩
                  have h1 := HXL.out
                  have h2 := HVX.out
                  have h3 := HOL1.out
                  rw [← HXC.out]; omega
set_option maxHeartbeats 4000000 in
theorem line_range {p : Nat} {t : RT} {w : World} {n : Int} (h : AtR w p t) (hn : n < 0 ∨ (cnt t.runes).l < n) :
    Calls Tryd.prog 68 #[.pointer (some ⟨p, 0, none⟩), .int .i64 n] w (LinePost n t.runes w) := by
  have HR := Hd.mk h
  have HN := Hd.mk hn
  obtain ⟨tot, htot⟩ : ∃ x, x = cnt t.runes := ⟨_, rfl⟩
  have HTOT := Hd.mk htot
  rw [← htot] at hn
  clear h htot
  refine (callsIn_wide (n := 6)).1 ?_
  refine callsIn_of_wp_marks Tryd.func68 rfl trivial ?_ rfl
  simp only [Tryd.ntmps68, List.size_toArray, List.length_cons, List.length_nil, Nat.reduceAdd, Nat.reduceSub, Array.replicate_succ, Array.replicate_zero, List.push_toArray, List.append_toArray, List.nil_append, List.cons_append]
  refine wpIn_wide.2 (Code.wp_mono NoPanic.imp ?_)
  by_cases h3 : n < 0
  · have d3 : decide (n < 0) = true := decide_eq_true h3
    clear hn
    go_wp2_with fail
    obtain ⟨s1, s2, s3, s4⟩ := three_new w n .nilIface _ rfl
    have hS : LnT w _ n := ⟨s4, s1, s2, s3⟩
    clear s1 s2 s3 s4
    generalize (((w.alloc (.cells #[.int .i64 n] 3)).alloc (.cells #[.int .i64 0, .int .i64 0, .int .i64 0, .int .i64 0] 36)).alloc (.cells #[.nilIface] 29)) = wa at hS ⊢
    have b0 := hS.bn.cell 0
    simp only [List.getElem?_toArray, List.getElem?_cons_zero] at b0
    have HS := Hd.mk hS
    clear hS
    have hc1 : ∀ d os, Calls Tryd.prog 61 #[.pointer (some ⟨p, 0, none⟩)] (grow (redrawn wa d) os) fun e w'' => e = .returned (.agg #[.int .i64 tot.b, .int .i64 tot.h, .int .i64 tot.r, .int .i64 tot.l]) ∧ ∃ p : Regrown, w'' = grow (redrawn wa p.d) p.os := fun d os => by rw [HTOT.out]; exact Calls.regrown_of (counts_calls (HR.out.below (bstep HS.out.below (below_regrown wa d os))))
    have kb0 := cell_regrown b0
    refine wp_region_quiet_below (by kernel_rfl) (by kernel_rfl) ?_
    repeat (quiet_step (first | exact hc1 _ _))
    refine wpQuiet_nil ?_
    rintro _ ⟨⟨dq, osq⟩, rfl⟩
    have HS2 := Hd.mk (HS.out.then_below (below_regrown wa dq osq))
    generalize grow (redrawn wa dq) osq = wb at HS2 ⊢
    clear hc1 kb0 b0 HS wa
    obtain ⟨z0, z1, z2, z3⟩ := HS2.out.r0.cells
    have y0 := HS2.out.r1.cell 0
    simp only [List.getElem?_toArray, List.getElem?_cons_zero] at y0
    have r0f := HS2.out.r0.frozen
    have r1f := HS2.out.r1.frozen
    have r0l := HS2.out.r0.lt
    have r1l := HS2.out.r1.lt
    go_wp2_with fail
    obtain ⟨e1, e2, e3, -⟩ := ln_store HS2.out Cn.zero (errno 2) _ rfl
    change bodyPostM Fence.wide 6 _ _ _ Exit.ret _ _
    exact ln_ret e1 e2 e3 ⟨fun _ => ⟨rfl, rfl⟩, fun h => absurd HN.out h⟩ rfl rfl rfl
  · have i4 : tot.l < n := by omega
    have d3 : decide (n < 0) = false := decide_eq_false h3
    clear hn
    go_wp2_with fail
    obtain ⟨s1, s2, s3, s4⟩ := three_new w n .nilIface _ rfl
    have hS : LnT w _ n := ⟨s4, s1, s2, s3⟩
    clear s1 s2 s3 s4
    generalize (((w.alloc (.cells #[.int .i64 n] 3)).alloc (.cells #[.int .i64 0, .int .i64 0, .int .i64 0, .int .i64 0] 36)).alloc (.cells #[.nilIface] 29)) = wa at hS ⊢
    have b0 := hS.bn.cell 0
    simp only [List.getElem?_toArray, List.getElem?_cons_zero] at b0
    have HS := Hd.mk hS
    clear hS
    have hc1 : ∀ d os, Calls Tryd.prog 61 #[.pointer (some ⟨p, 0, none⟩)] (grow (redrawn wa d) os) fun e w'' => e = .returned (.agg #[.int .i64 tot.b, .int .i64 tot.h, .int .i64 tot.r, .int .i64 tot.l]) ∧ ∃ p : Regrown, w'' = grow (redrawn wa p.d) p.os := fun d os => by rw [HTOT.out]; exact Calls.regrown_of (counts_calls (HR.out.below (bstep HS.out.below (below_regrown wa d os))))
    have kb0 := cell_regrown b0
    refine wp_region_quiet_below (by kernel_rfl) (by kernel_rfl) ?_
    repeat (quiet_step (first | exact hc1 _ _))
    refine wpQuiet_nil ?_
    rintro _ ⟨⟨dq, osq⟩, rfl⟩
    have HS2 := Hd.mk (HS.out.then_below (below_regrown wa dq osq))
    generalize grow (redrawn wa dq) osq = wb at HS2 ⊢
    clear hc1 kb0 b0 HS wa
    obtain ⟨z0, z1, z2, z3⟩ := HS2.out.r0.cells
    have y0 := HS2.out.r1.cell 0
    simp only [List.getElem?_toArray, List.getElem?_cons_zero] at y0
    have r0f := HS2.out.r0.frozen
    have r1f := HS2.out.r1.frozen
    have r0l := HS2.out.r0.lt
    have r1l := HS2.out.r1.lt
    go_wp2_with fail
    obtain ⟨e1, e2, e3, -⟩ := ln_store HS2.out Cn.zero (errno 2) _ rfl
    change bodyPostM Fence.wide 6 _ _ _ Exit.ret _ _
    exact ln_ret e1 e2 e3 ⟨fun _ => ⟨rfl, rfl⟩, fun h => absurd HN.out h⟩ rfl rfl rfl
theorem line_calls {p : Nat} {t : RT} {w : World} {n : Int} (h : AtR w p t) (hg : Good t) :
    Calls Tryd.prog 68 #[.pointer (some ⟨p, 0, none⟩), .int .i64 n] w (LinePost n t.runes w) := by
  by_cases hn : n < 0 ∨ (cnt t.runes).l < n
  · exact line_range h hn
  · exact line_in h hg (by omega)
end Go.Proofs.YtgokmldngnmmhaaDoor
/- pos.Convert, pos.Spot, pos.Place. -/
namespace Go.Proofs.YtgokmldngnmmhaaDoor
open Go.RowKit
set_option maxRecDepth 100000
theorem Pl.l {u at_ : Int} {R : List Int} {c : Cn} (h : Pl u at_ R c) : 0 ≤ c.l ∧ c.l ≤ (cnt R).l := by
  obtain ⟨p, q, rfl, -, rfl⟩ := h
  rw [cnt_app_l]
  have := l_nn p
  have := l_nn q
  omega
theorem Pl.of_le {u at_ : Int} {R : List Int} {c : Cn} (h : Pl u at_ R c) (hR : R.length ≤ 8000) (v : Int) : 0 ≤ c.of v ∧ c.of v ≤ 32000 := by
  obtain ⟨p, q, rfl, -, rfl⟩ := h
  simp only [List.length_append] at hR
  exact ⟨of_nn _ _, by have := Go.Proofs.YtgokmldngnmmhaaDoor.of_le (rs := p) (n := 8000) (by omega) v; omega⟩
theorem Ln.of_le {n : Int} {R : List Int} {c : Cn} (h : Ln n R c) (hR : R.length ≤ 8000) (v : Int) : 0 ≤ c.of v ∧ c.of v ≤ 32000 := by
  obtain ⟨p, q, rfl, -, rfl, -⟩ := h
  simp only [List.length_append] at hR
  exact ⟨of_nn _ _, by have := Go.Proofs.YtgokmldngnmmhaaDoor.of_le (rs := p) (n := 8000) (by omega) v; omega⟩
/-- A line begins ahead of whatever lies in it. -/
theorem ln_le {p q : List Int} {lc : Cn} {u : Int} (h : Ln (cnt p).l (p ++ q) lc) : lc.of u ≤ (cnt p).of u := by
  obtain ⟨p', q', e1, e2, rfl, e3⟩ := h
  rcases pre_le e1 with ⟨d, h1, h2⟩ | ⟨d, h1, h2⟩
  · rw [h1, cnt_app_l] at e2
    rcases List.eq_nil_or_concat d with rfl | ⟨d', y, rfl⟩
    · rw [List.append_nil] at h1; rw [h1]; omega
    · exfalso
      rcases e3 with e3 | ⟨p3, e3⟩
      · rw [h1] at e3; simp at e3
      · rw [h1, List.concat_eq_append, ← List.append_assoc] at e3
        have hy := (List.append_inj' e3 rfl).2
        simp at hy
        subst hy
        rw [List.concat_eq_append, cnt_app_l, cnt_one_l] at e2
        have := l_nn d'
        simp at e2
        omega
  · rw [h1, cnt_app_of]; have := of_nn d u; omega
/-- The next line begins behind it. -/
theorem ln_next {p q : List Int} {nx : Cn} {u : Int} (hu : 1 ≤ u ∧ u ≤ 3) (h : Ln ((cnt p).l + 1) (p ++ q) nx) : (cnt p).of u + 1 ≤ nx.of u := by
  obtain ⟨p', q', e1, e2, rfl, e3⟩ := h
  rcases pre_le e1 with ⟨d, h1, h2⟩ | ⟨d, h1, h2⟩
  · rw [h1, cnt_app_l] at e2
    rw [h1, cnt_app_of]
    have hd : d ≠ [] := by rintro rfl; rw [cnt_nil] at e2; change _ + (0 : Int) = _ at e2; omega
    have := of_len d hu
    have := List.length_pos_iff.2 hd
    omega
  · rw [h1, cnt_app_l] at e2
    have := l_nn d
    omega
def ConvPost (u v at_ : Int) (R : List Int) (w : World) (e : Ending) (w' : World) : Prop :=
  Below w.heap.size w w' ∧ ((∃ c, Pl u at_ R c ∧ e = .returned (.tuple #[.int .i64 (c.of v), .nilIface])) ∨ ((∀ c, ¬ Pl u at_ R c) ∧ ∃ k, 1 ≤ k ∧ e = .returned (.tuple #[.int .i64 0, errno k])))
attribute [local go_sem] Cn.v_eq
set_option maxHeartbeats 4000000 in
theorem convert_calls {p : Nat} {t : RT} {w : World} {u v at_ : Int} (h : AtR w p t) (hg : Good t) (hu : 1 ≤ u ∧ u ≤ 3) (hv : 1 ≤ v ∧ v ≤ 3) :
    Calls Tryd.prog 50 #[.pointer (some ⟨p, 0, none⟩), .int .i64 u, .int .i64 v, .int .i64 at_] w (ConvPost u v at_ t.runes w) := by
  have HA := Hd.mk (ahead_calls (u := u) (at_ := at_) h hg)
  have HU := Hd.mk hu
  have i1 : ¬ v < 1 := by omega
  have i2 : ¬ 3 < v := by omega
  clear h hg hu hv
  go_enter Tryd.func50, Tryd.ntmps50
  go_wp2_with fail
  refine HA.out.mono ?_
  rintro e w1 ⟨hb, c, er, rfl, hr⟩
  have HB := Hd.mk hb
  have HRR := Hd.mk hr
  have hcs := ahead_cases hr
  clear hb hr
  rcases hcs with ⟨rfl, hp, -, -⟩ | ⟨k, rfl, rfl, hk, hno⟩
  · have HP := Hd.mk hp
    clear hp
    go_wp2_with (go_at_call 60; refine (in_calls c v _).mono ?_; rintro e w2 ⟨rfl, hb2⟩; have HB2 := Hd.mk hb2; clear hb2)
    go_ret2
    exact ⟨bstep (ex_alloc HB.out _) HB2.out, .inl ⟨c, HP.out, rfl⟩⟩
  · have HK := Hd.mk hk
    have HNO := Hd.mk hno
    clear hk hno
    unfold errno
    go_wp2_with fail
    go_ret2
    exact ⟨ex_alloc HB.out _, .inr ⟨fun c hc => HNO.out c ⟨hc, HU.out⟩, k, HK.out, rfl⟩⟩
/-- A result of two cells that is being laid, beside two counts. -/
def SpS (W : World) (B : Nat) (w' : World) : Prop := Only (fun k => k = B) W w' ∧ ∃ x y, Blk w' B 91 #[x, y]
abbrev SpX (W : World) (g y : Nat) (c lc : Cn) (B : Nat) (w' : World) : Prop := SpS W B w' ∧ w'.cell? ⟨g, 0, none⟩ = some (.int .i64 c.b) ∧ w'.cell? ⟨g, 1, none⟩ = some (.int .i64 c.h) ∧ w'.cell? ⟨g, 2, none⟩ = some (.int .i64 c.r) ∧ w'.cell? ⟨g, 3, none⟩ = some (.int .i64 c.l) ∧
  w'.cell? ⟨y, 0, none⟩ = some (.int .i64 lc.b) ∧ w'.cell? ⟨y, 1, none⟩ = some (.int .i64 lc.h) ∧ w'.cell? ⟨y, 2, none⟩ = some (.int .i64 lc.r) ∧ w'.cell? ⟨y, 3, none⟩ = some (.int .i64 lc.l) ∧
  w'.cell? ⟨B, 0, none⟩ = some (cv w' B 0) ∧ w'.cell? ⟨B, 1, none⟩ = some (cv w' B 1) ∧ (∀ i, w'.frozen? ⟨B, i, none⟩ = false) ∧ B < w'.heap.size
theorem sp_x {W w' : World} {g y B : Nat} {c lc : Cn} (hc : CnBlk W g c) (hl : CnBlk W y lc) (hg : g ≠ B) (hy : y ≠ B) (h : SpS W B w') : SpX W g y c lc B w' := by
  obtain ⟨ho, a, b, hb⟩ := h
  have hc' : CnBlk w' g c := (ho.block g hc.lt hg).trans hc
  have hl' : CnBlk w' y lc := (ho.block y hl.lt hy).trans hl
  obtain ⟨q0, q1, q2, q3⟩ := hc'.cells
  obtain ⟨l0, l1, l2, l3⟩ := hl'.cells
  exact ⟨⟨ho, a, b, hb⟩, q0, q1, q2, q3, l0, l1, l2, l3, cv_of (hb.cell 0), cv_of (hb.cell 1), hb.frozen, hb.lt⟩
theorem SpX.sp {W w' : World} {g y B : Nat} {c lc : Cn} (h : SpX W g y c lc B w') : SpS W B w' := h.1
theorem SpS.drew {W w' : World} {B : Nat} (h : SpS W B w') : SpS W B w'.drew := ⟨h.1.drew, h.2⟩
theorem SpS.call {W w' w2 : World} {B : Nat} (h : SpS W B w') (hb : Below w'.heap.size w' w2) : SpS W B w2 := by
  obtain ⟨ho, a, b, hk⟩ := h
  exact ⟨ho.then_below hb, a, b, hk.below hb hk.lt⟩
theorem SpS.store1 {W w' : World} {B : Nat} (h : SpS W B w') (a b : Value) : Only (fun k => k = B) W ((w'.setCell ⟨B, 0, none⟩ a).setCell ⟨B, 1, none⟩ b) ∧ Blk ((w'.setCell ⟨B, 0, none⟩ a).setCell ⟨B, 1, none⟩ b) B 91 #[a, b] := by
  obtain ⟨ho, _, _, hk⟩ := h
  exact ⟨(ho.setCell (p := ⟨B, 0, none⟩) (.inl rfl) a).setCell (p := ⟨B, 1, none⟩) (.inl rfl) b, (hk.set_ 0 a).set_ 1 b⟩
theorem SpS.store {W w' : World} {B : Nat} (h : SpS W B w') (a b : Value) : SpS W B ((w'.setCell ⟨B, 0, none⟩ a).setCell ⟨B, 1, none⟩ b) := by
  obtain ⟨ho, _, _, hk⟩ := h
  exact ⟨(ho.setCell (p := ⟨B, 0, none⟩) (.inl rfl) a).setCell (p := ⟨B, 1, none⟩) (.inl rfl) b, _, _, (hk.set_ 0 a).set_ 1 b⟩
def SpotPost (u at_ : Int) (R : List Int) (w : World) (e : Ending) (w' : World) : Prop :=
  Below w.heap.size w w' ∧ ((∃ c lc, Pl u at_ R c ∧ Ln c.l R lc ∧ e = .returned (.tuple #[.agg #[.int .i64 c.l, .int .i64 (c.of u - lc.of u)], .nilIface])) ∨ ((∀ c, ¬ Pl u at_ R c) ∧ ∃ k, 1 ≤ k ∧ e = .returned (.tuple #[.agg #[.int .i64 0, .int .i64 0], errno k])))
set_option maxHeartbeats 4000000 in
theorem spot_calls {p : Nat} {t : RT} {w : World} {u at_ : Int} (h : AtR w p t) (hg : Good t) (hu : 1 ≤ u ∧ u ≤ 3) :
    Calls Tryd.prog 52 #[.pointer (some ⟨p, 0, none⟩), .int .i64 u, .int .i64 at_] w (SpotPost u at_ t.runes w) := by
  have HA := Hd.mk (fun w1 (hb : Below w.heap.size w w1) => ahead_calls (u := u) (at_ := at_) (h.below hb) hg)
  have HL := Hd.mk (fun n w1 (hb : Below w.heap.size w w1) => line_calls (n := n) (h.below hb) hg)
  have HU := Hd.mk hu
  have HTL : Hd (t.runes.length ≤ 8000) := ⟨by have := bl_len t.runes; have := hg.sz; omega⟩
  clear h hg hu
  go_enter Tryd.func52, Tryd.ntmps52
  go_wp2_with fail
  refine (HA.out _ (ex_alloc (Below.refl _ _) _)).mono ?_
  rintro e w1 ⟨hb, c, er, rfl, hr⟩
  have hR1 : Blk w1 w.heap.size 91 #[.int .i64 0, .int .i64 0] := (Blk.new w 91 _).below hb (by simp)
  have HB := Hd.mk (bstep (ex_alloc (Below.refl _ _) _) hb)
  have HR1 := Hd.mk hR1
  have r0 := hR1.cell 0
  have r1 := hR1.cell 1
  have rf := hR1.frozen
  have rl := hR1.lt
  simp only [List.getElem?_toArray, List.getElem?_cons_zero, List.getElem?_cons_succ] at r0 r1
  have hcs := ahead_cases hr
  clear hb hr hR1
  rcases hcs with ⟨rfl, hp, -, -⟩ | ⟨k, rfl, rfl, hk, hno⟩
  · have HP := Hd.mk hp
    have hcl := hp.l
    have HCL := Hd.mk hcl
    have hco := hp.of_le HTL.out u
    clear hp hcl
    go_wp2_with fail
    refine (HL.out _ _ (ex_alloc HB.out _)).mono ?_
    rintro e w2 ⟨hb2, lc, er, rfl, hr2⟩
    obtain ⟨rfl, hln⟩ := hr2.2 (by have := HCL.out; omega)
    have hlo := hln.of_le HTL.out u
    have HLN := Hd.mk hln
    have HB2 := Hd.mk (bstep (ex_alloc HB.out _) hb2)
    have hc2 : CnBlk w2 w1.heap.size c := CnBlk.below (heap_alloc_new w1 _) hb2 (by simp)
    have hR2 : Blk w2 w.heap.size 91 #[.int .i64 0, .int .i64 0] := (HR1.out.alloc _).below hb2 (by simp; omega)
    have hne : w.heap.size ≠ w1.heap.size := by omega
    clear r0 r1 rf rl
    obtain ⟨q0, q1, q2, q3⟩ := hc2.cells
    have ql := hc2.lt
    have r0 := hR2.cell 0
    have r1 := hR2.cell 1
    have rf := hR2.frozen
    have rl := hR2.lt
    simp only [List.getElem?_toArray, List.getElem?_cons_zero, List.getElem?_cons_succ] at r0 r1
    have HR2 := Hd.mk hR2
    have HC2 := Hd.mk hc2
    clear hb2 hr2 hln hc2 hR2
    have hl2 : CnBlk (w2.alloc (.cells #[.int .i64 lc.b, .int .i64 lc.h, .int .i64 lc.r, .int .i64 lc.l] 36)) w2.heap.size lc := heap_alloc_new w2 _
    have HLW := Hd.mk hl2
    have HCW : Hd (CnBlk (w2.alloc (.cells #[.int .i64 lc.b, .int .i64 lc.h, .int .i64 lc.r, .int .i64 lc.l] 36)) w1.heap.size c) := ⟨HC2.out.below (ex_alloc (Below.refl _ _) _) HC2.out.lt⟩
    have HRW : Hd (Blk (w2.alloc (.cells #[.int .i64 lc.b, .int .i64 lc.h, .int .i64 lc.r, .int .i64 lc.l] 36)) w.heap.size 91 #[.int .i64 0, .int .i64 0]) := ⟨HR2.out.alloc _⟩
    have HBW := Hd.mk (ex_alloc HB2.out (.cells #[.int .i64 lc.b, .int .i64 lc.h, .int .i64 lc.r, .int .i64 lc.l] 36))
    have HNE : Hd (w1.heap.size ≠ w.heap.size ∧ w2.heap.size ≠ w.heap.size) := ⟨by omega, by omega⟩
    clear hl2
    go_wp2_with fail
    generalize w2.alloc (.cells #[.int .i64 lc.b, .int .i64 lc.h, .int .i64 lc.r, .int .i64 lc.l] 36) = wc at HLW HCW HRW HBW ⊢
    have HS0 : Hd (SpS wc w.heap.size wc) := ⟨Only.refl _ _, _, _, HRW.out⟩
    generalize hg1 : w1.heap.size = g1 at *
    generalize hg2 : w2.heap.size = g2 at *
    generalize hB : w.heap.size = B at *
    clear r0 r1 rf rl q0 q1 q2 q3 ql hne
    obtain ⟨q0, q1, q2, q3⟩ := HCW.out.cells
    obtain ⟨l0, l1, l2, l3⟩ := HLW.out.cells
    go_region_held3 (fun w' => SpS wc B w' ∧ w'.cell? ⟨g1, 0, none⟩ = some (.int .i64 c.b) ∧ w'.cell? ⟨g1, 1, none⟩ = some (.int .i64 c.h) ∧ w'.cell? ⟨g1, 2, none⟩ = some (.int .i64 c.r) ∧ w'.cell? ⟨g1, 3, none⟩ = some (.int .i64 c.l) ∧ w'.cell? ⟨g2, 0, none⟩ = some (.int .i64 lc.b) ∧ w'.cell? ⟨g2, 1, none⟩ = some (.int .i64 lc.h) ∧ w'.cell? ⟨g2, 2, none⟩ = some (.int .i64 lc.r) ∧ w'.cell? ⟨g2, 3, none⟩ = some (.int .i64 lc.l) ∧ w'.cell? ⟨B, 0, none⟩ = some (cv w' B 0) ∧ w'.cell? ⟨B, 1, none⟩ = some (cv w' B 1) ∧ (∀ i, w'.frozen? ⟨B, i, none⟩ = false) ∧ B < w'.heap.size)
      (first | exact (sp_x HCW.out HLW.out HNE.out.1 HNE.out.2 HS0.out.drew) | exact (sp_x HCW.out HLW.out HNE.out.1 HNE.out.2 (SpS.call (SpX.sp (by assumption)) (by assumption))) | exact (sp_x HCW.out HLW.out HNE.out.1 HNE.out.2 (SpS.store (SpX.sp (by assumption)) _ _)) | assumption)
      (first
        | (go_at_call_of 60 (c.b); refine (in_calls c u _).mono ?_; rintro e w' ⟨rfl, hb'⟩)
        | (go_at_call_of 60 (lc.b); refine (in_calls lc u _).mono ?_; rintro e w' ⟨rfl, hb'⟩))
    all_goals
      have hfin := SpS.store1 (SpS.call (SpS.call HS0.out.drew (by assumption)) hb') (.int .i64 c.l) (.int .i64 (c.of u - lc.of u))
      have HFIN := Hd.mk hfin
      clear hfin
      have hw3 : IntKind.i64.wrap (c.of u - lc.of u) = c.of u - lc.of u := by rw [IntKind.wrap_i64] <;> omega
      rw [hw3]
      generalize ((w'.setCell ⟨B, 0, none⟩ (.int .i64 c.l)).setCell ⟨B, 1, none⟩ (.int .i64 (c.of u - lc.of u))) = wf at HFIN ⊢
      have f0 := HFIN.out.2.cell 0
      have f1 := HFIN.out.2.cell 1
      simp only [List.getElem?_toArray, List.getElem?_cons_zero, List.getElem?_cons_succ] at f0 f1
      clear hw3 hb'
      go_wp2_with fail
      refine bodyPost_ret (v := .tuple #[.agg #[.int .i64 c.l, .int .i64 (c.of u - lc.of u)], .nilIface]) (by simp [results, Tryd.results52, go_sem, f0, f1]) rfl ?_
      refine ⟨?_, .inl ⟨c, lc, HP.out, HLN.out, rfl⟩⟩
      subst hB
      exact HBW.out.trans (HFIN.out.1.below HBW.out.size (fun k hk e => by omega))
  · have HK := Hd.mk hk
    have HNO := Hd.mk hno
    clear hk hno
    unfold errno
    go_wp2_with fail
    have hset := (HR1.out.set_ 0 (.int .i64 0)).set_ 1 (.int .i64 0)
    have hbl : Below w.heap.size w ((w1.setCell ⟨w.heap.size, 0, none⟩ (.int .i64 0)).setCell ⟨w.heap.size, 1, none⟩ (.int .i64 0)) := (HB.out.setCell (p := ⟨w.heap.size, 0, none⟩) (Nat.le_refl _) _).setCell (p := ⟨w.heap.size, 1, none⟩) (Nat.le_refl _) _
    have HSET := Hd.mk hset
    have HBL := Hd.mk hbl
    clear hset hbl
    have f0 := (HSET.out.alloc (.cells #[.int .i64 Cn.zero.b, .int .i64 Cn.zero.h, .int .i64 Cn.zero.r, .int .i64 Cn.zero.l] 36)).cell 0
    have f1 := (HSET.out.alloc (.cells #[.int .i64 Cn.zero.b, .int .i64 Cn.zero.h, .int .i64 Cn.zero.r, .int .i64 Cn.zero.l] 36)).cell 1
    simp only [List.setIfInBounds_toArray, List.set_cons_zero, List.set_cons_succ, List.getElem?_toArray, List.getElem?_cons_zero, List.getElem?_cons_succ] at f0 f1
    refine bodyPost_ret (v := .tuple #[.agg #[.int .i64 0, .int .i64 0], errno k]) (by simp [results, Tryd.results52, go_sem, f0, f1, errno]) rfl ?_
    exact ⟨ex_alloc HBL.out _, .inr ⟨fun c hc => HNO.out c ⟨hc, HU.out⟩, k, HK.out, rfl⟩⟩
end Go.Proofs.YtgokmldngnmmhaaDoor
/- pos.Place, of a spot. -/
namespace Go.Proofs.YtgokmldngnmmhaaDoor
open Go.RowKit Go.Sort
set_option maxRecDepth 100000
attribute [local go_sem] Cn.v_eq field_cn3
set_option maxHeartbeats 8000000 in
theorem place_ok {p : Nat} {t : RT} {w : World} {u at_ : Int} {c lc : Cn} (h : AtR w p t) (hg : Good t) (hu : 1 ≤ u ∧ u ≤ 3) (hp : Pl u at_ t.runes c) (hl : Ln c.l t.runes lc) :
    Calls Tryd.prog 54 #[.pointer (some ⟨p, 0, none⟩), .int .i64 u, .agg #[.int .i64 c.l, .int .i64 (c.of u - lc.of u)]] w fun e w' => e = .returned (.tuple #[.int .i64 at_, .nilIface]) ∧ Below w.heap.size w w' := by
  have HA := Hd.mk (fun w1 (hb : Below w.heap.size w w1) => ahead_calls (u := u) (at_ := at_) (h.below hb) hg)
  have HL := Hd.mk (fun n w1 (hb : Below w.heap.size w w1) => line_calls (n := n) (h.below hb) hg)
  have HC := Hd.mk (fun w1 (hb : Below w.heap.size w w1) => counts_calls (h.below hb))
  have HU := Hd.mk hu
  have htl : t.runes.length ≤ 8000 := by have := bl_len t.runes; have := hg.sz; omega
  have i1 : ¬ u < 1 := by omega
  have i2 : ¬ 3 < u := by omega
  have HP := Hd.mk hp
  have HLN := Hd.mk hl
  have hcl := hp.l
  have HCL := Hd.mk hcl
  obtain ⟨vl, hvl⟩ : ∃ x, x = lc.of u := ⟨_, rfl⟩
  obtain ⟨col, hcol⟩ : ∃ x, x = c.of u - vl := ⟨_, rfl⟩
  obtain ⟨tot, htot⟩ : ∃ x, x = cnt t.runes := ⟨_, rfl⟩
  have hca : c.of u = at_ := by obtain ⟨p, q, -, e, rfl⟩ := hp; exact e
  have hlc : lc.of u ≤ c.of u := by obtain ⟨p, q, e1, -, rfl⟩ := hp; rw [e1] at hl; exact ln_le hl
  have hb1 := hp.of_le htl u
  have hb2 := hl.of_le htl u
  have htu : c.of u ≤ (cnt t.runes).of u := by obtain ⟨p, q, e1, -, rfl⟩ := hp; rw [e1, cnt_app_of]; have := of_nn q u; omega
  have htb : (cnt t.runes).of u ≤ 32000 := by have := of_le (rs := t.runes) (n := 8000) htl u; omega
  have hlb : (cnt t.runes).l ≤ 32000 := by have := l_le (rs := t.runes) (k := 8000) htl; omega
  rw [← hvl, ← hcol]
  rw [← htot] at htu htb hcl hlb
  have HVL := Hd.mk hvl
  have HTOT := Hd.mk htot
  obtain ⟨vt, hvt⟩ : ∃ x, x = tot.of u := ⟨_, rfl⟩
  have HVT := Hd.mk hvt
  rw [← hvt] at htu htb
  rw [← hvl] at hlc hb2
  rw [hca] at hcol htu hlc hb1
  have HCOL := Hd.mk hcol
  have k1 : 0 ≤ col := by omega
  have k2 : col ≤ 32000 := by omega
  have k3 : vl + col = at_ := by omega
  have HK := Hd.mk k3
  have HCA := Hd.mk hca
  have HHH : Hd (AtR w p t ∧ Good t) := ⟨⟨h, hg⟩⟩
  obtain ⟨n, hn⟩ : ∃ x, x = c.l := ⟨_, rfl⟩
  rw [← hn] at hcl ⊢
  have HN := Hd.mk hn
  obtain ⟨hn1, hn2⟩ := hcl
  obtain ⟨hvl1, hvl2⟩ := hb2
  obtain ⟨hat1, hat2⟩ := hb1
  have HTL := Hd.mk htl
  have HTU := Hd.mk htu
  clear h hg hu hp hl hvl hcol htot hvt hca hn k3 htl
  go_enter Tryd.func54, Tryd.ntmps54
  go_wp2_with fail
  have hB0 : Blk (w.alloc (.cells #[.int .i64 n, .int .i64 col] 91)) w.heap.size 91 #[.int .i64 n, .int .i64 col] := Blk.new _ _ _
  refine (HL.out n _ (ex_alloc (Below.refl _ _) _)).mono ?_
  rintro e w1 ⟨hb, lc2, er, rfl, hr⟩
  obtain ⟨rfl, hln⟩ := hr.2 (by rw [← HTOT.out]; omega)
  rw [HN.out] at hln
  obtain rfl := hln.unique HLN.out
  have HB1 := Hd.mk (bstep (ex_alloc (Below.refl _ _) _) hb)
  have HS1 := Hd.mk (hB0.below hb hB0.lt)
  clear hb hr hln hB0
  go_upto_region 6 with fail
  have hl1 : CnBlk (w1.alloc (.cells #[.int .i64 lc2.b, .int .i64 lc2.h, .int .i64 lc2.r, .int .i64 lc2.l] 36)) w1.heap.size lc2 := heap_alloc_new w1 _
  have HS2 := Hd.mk (HS1.out.alloc (.cells #[.int .i64 lc2.b, .int .i64 lc2.h, .int .i64 lc2.r, .int .i64 lc2.l] 36))
  have HB2 := Hd.mk (ex_alloc HB1.out (.cells #[.int .i64 lc2.b, .int .i64 lc2.h, .int .i64 lc2.r, .int .i64 lc2.l] 36))
  have HL2 := Hd.mk hl1
  generalize w1.alloc (.cells #[.int .i64 lc2.b, .int .i64 lc2.h, .int .i64 lc2.r, .int .i64 lc2.l] 36) = w2 at HS2 HB2 HL2 ⊢
  generalize w1.heap.size = y at HL2 ⊢
  clear hl1 HS1 HB1 w1
  go_upto_region 7 with (first
    | (go_at_call 61; refine (HC.out _ HB2.out).mono ?_; rintro e w3 ⟨rfl, hb3⟩; rw [← HTOT.out]; have HB3 := Hd.mk (bstep HB2.out hb3); have HS3 := Hd.mk (HS2.out.below hb3 HS2.out.lt); have HL3 := Hd.mk (HL2.out.below hb3 HL2.out.lt); clear hb3)
    | (go_at_call 60; refine (in_calls tot u _).mono ?_; rintro e w4 ⟨rfl, hb4⟩; rw [← HVT.out]; have HB4 := Hd.mk (bstep HB3.out hb4); have HS4 := Hd.mk (HS3.out.below hb4 HS3.out.lt); have HL4 := Hd.mk (HL3.out.below hb4 HL3.out.lt); clear hb4))
  have s0 := HS4.out.cell 0
  have s1 := HS4.out.cell 1
  simp only [List.getElem?_toArray, List.getElem?_cons_zero, List.getElem?_cons_succ] at s0 s1
  obtain ⟨l0, l1, l2, l3⟩ := HL4.out.cells
  have ks0 := cell_regrown s0
  have ks1 := cell_regrown s1
  have kl0 := cell_regrown l0
  have kl1 := cell_regrown l1
  have kl2 := cell_regrown l2
  have kl3 := cell_regrown l3
  have hqc : ∀ d os, Calls Tryd.prog 61 #[.pointer (some ⟨p, 0, none⟩)] (grow (redrawn w4 d) os) fun e w'' => e = .returned (.agg #[.int .i64 tot.b, .int .i64 tot.h, .int .i64 tot.r, .int .i64 tot.l]) ∧ ∃ p : Regrown, w'' = grow (redrawn w4 p.d) p.os := fun d os => by rw [HTOT.out]; exact Calls.regrown_of (HC.out _ (bstep HB4.out (below_regrown w4 d os)))
  refine wp_region_quiet_below (by kernel_rfl) (by kernel_rfl) ?_
  repeat (quiet_step (exact hqc _ _))
  refine wpQuiet_nil ?_
  rintro _ ⟨⟨dq5, oq5⟩, rfl⟩
  have hbg5 := below_regrown w4 dq5 oq5
  have HB5 := Hd.mk (bstep HB4.out hbg5)
  have HS5 := Hd.mk (HS4.out.below hbg5 HS4.out.lt)
  have HL5 := Hd.mk (HL4.out.below hbg5 HL4.out.lt)
  generalize grow (redrawn w4 dq5) oq5 = w5 at HB5 HS5 HL5 ⊢
  clear hbg5 ks0 ks1 kl0 kl1 kl2 kl3 hqc s0 s1 l0 l1 l2 l3
  by_cases hnt : n < tot.l
  · have s0 := HS5.out.cell 0
    have sl := HS5.out.lt
    simp only [List.getElem?_toArray, List.getElem?_cons_zero] at s0
    go_wp2_with fail
    refine (HL.out (n + 1) _ HB5.out).mono ?_
    rintro e w6 ⟨hb6, nx, er6, rfl, hr6⟩
    obtain ⟨rfl, hln6⟩ := hr6.2 (by rw [← HTOT.out]; omega)
    have hnx : at_ + 1 ≤ nx.of u := by
      obtain ⟨p1, q1, e1, e2, e3⟩ := HP.out
      have h1 := HN.out
      rw [e3] at h1
      rw [h1, e1] at hln6
      have := ln_next HU.out hln6
      omega
    have hnx2 := hln6.of_le HTL.out u
    have HB6 := Hd.mk (bstep HB5.out hb6)
    have HS6 := Hd.mk (HS5.out.below hb6 HS5.out.lt)
    have HL6 := Hd.mk (HL5.out.below hb6 HL5.out.lt)
    clear hb6 hr6 hln6 s0 sl
    go_upto_region 10 with (go_at_call 60; refine (in_calls nx u _).mono ?_; rintro e w7 ⟨rfl, hb7⟩; have HB7 := Hd.mk (bstep (ex_alloc HB6.out _) hb7); have HS7 := Hd.mk ((HS6.out.alloc _).below hb7 (by simp; have := HS6.out.lt; omega)); have HL7 := Hd.mk (CnBlk.below (Blk.alloc (t := 36) HL6.out _) hb7 (by simp; have := HL6.out.lt; omega)); clear hb7)
    obtain ⟨hnx3, hnx4⟩ := hnx2
    generalize nx.of u = vn at *
    have d1 : decide (col < 0) = false := decide_eq_false (by omega)
    have hw1 : IntKind.i64.wrap ((vn - 1) - vl) = (vn - 1) - vl := by rw [IntKind.wrap_i64] <;> omega
    have hw2 : IntKind.i64.wrap (vl + col) = at_ := by rw [HK.out, IntKind.wrap_i64] <;> omega
    have hce : ¬ ((vn - 1) - vl < col) := by have := HK.out; have := HTU.out; omega
    go_wp2_with fail
    have s0 := HS7.out.cell 0
    have s1 := HS7.out.cell 1
    simp only [List.getElem?_toArray, List.getElem?_cons_zero, List.getElem?_cons_succ] at s0 s1
    obtain ⟨l0, l1, l2, l3⟩ := HL7.out.cells
    have ks0 := cell_regrown s0
    have ks1 := cell_regrown s1
    have kl0 := cell_regrown l0
    have kl1 := cell_regrown l1
    have kl2 := cell_regrown l2
    have kl3 := cell_regrown l3
    have hqc : ∀ d os, Calls Tryd.prog 60 #[.agg #[.int .i64 lc2.b, .int .i64 lc2.h, .int .i64 lc2.r, .int .i64 lc2.l], .int .i64 u] (grow (redrawn w7 d) os) fun e w'' => e = .returned (.int .i64 vl) ∧ ∃ p : Regrown, w'' = grow (redrawn w7 p.d) p.os := fun d os => by rw [HVL.out]; exact Calls.regrown_of (in_calls lc2 u _)
    refine wp_region_quiet_below (by kernel_rfl) (by kernel_rfl) ?_
    repeat (quiet_step (exact hqc _ _))
    refine wpQuiet_nil ?_
    rintro _ ⟨⟨dqa, oqa⟩, rfl⟩
    have hbga := below_regrown w7 dqa oqa
    have HBa := Hd.mk (bstep HB7.out hbga)
    have HSa := Hd.mk (HS7.out.below hbga HS7.out.lt)
    have HLa := Hd.mk (HL7.out.below hbga HL7.out.lt)
    generalize grow (redrawn w7 dqa) oqa = wa at HBa HSa HLa ⊢
    clear hbga ks0 ks1 kl0 kl1 kl2 kl3 hqc s0 s1 l0 l1 l2 l3
    go_wp2_with fail
    have s0 := HSa.out.cell 0
    have s1 := HSa.out.cell 1
    simp only [List.getElem?_toArray, List.getElem?_cons_zero, List.getElem?_cons_succ] at s0 s1
    obtain ⟨l0, l1, l2, l3⟩ := HLa.out.cells
    have ks0 := cell_regrown s0
    have ks1 := cell_regrown s1
    have kl0 := cell_regrown l0
    have kl1 := cell_regrown l1
    have kl2 := cell_regrown l2
    have kl3 := cell_regrown l3
    have hqc : ∀ d os, Calls Tryd.prog 60 #[.agg #[.int .i64 lc2.b, .int .i64 lc2.h, .int .i64 lc2.r, .int .i64 lc2.l], .int .i64 u] (grow (redrawn wa d) os) fun e w'' => e = .returned (.int .i64 vl) ∧ ∃ p : Regrown, w'' = grow (redrawn wa p.d) p.os := fun d os => by rw [HVL.out]; exact Calls.regrown_of (in_calls lc2 u _)
    refine wp_region_quiet_below (by kernel_rfl) (by kernel_rfl) ?_
    repeat (quiet_step (exact hqc _ _))
    refine wpQuiet_nil ?_
    rintro _ ⟨⟨dqb, oqb⟩, rfl⟩
    have hbgb := below_regrown wa dqb oqb
    have HBb := Hd.mk (bstep HBa.out hbgb)
    have HSb := Hd.mk (HSa.out.below hbgb HSa.out.lt)
    have HLb := Hd.mk (HLa.out.below hbgb HLa.out.lt)
    generalize grow (redrawn wa dqb) oqb = wb at HBb HSb HLb ⊢
    clear hbgb ks0 ks1 kl0 kl1 kl2 kl3 hqc s0 s1 l0 l1 l2 l3
    go_wp2_with fail
    refine (HA.out _ HBb.out).mono ?_
    rintro e w9 ⟨hb9, c9, er9, rfl, hr9⟩
    have HB9 := Hd.mk (bstep HBb.out hb9)
    obtain ⟨rfl, -⟩ : er9 = .nilIface ∧ True := by
      rcases ahead_cases hr9 with ⟨e, -⟩ | ⟨k, -, -, -, hno⟩
      · exact ⟨e, trivial⟩
      · exact absurd ⟨HP.out, HU.out⟩ (hno c)
    clear hb9 hr9
    go_wp2_with fail
    go_ret2
    exact ⟨rfl, ex_alloc HB9.out _⟩
  · skip
    have d1 : decide (col < 0) = false := decide_eq_false (by omega)
    have hw1 : IntKind.i64.wrap (vt - vl) = vt - vl := by rw [IntKind.wrap_i64] <;> omega
    have hw2 : IntKind.i64.wrap (vl + col) = at_ := by rw [HK.out, IntKind.wrap_i64] <;> omega
    have hce : ¬ (vt - vl < col) := by have := HK.out; have := HTU.out; omega
    go_wp2_with fail
    have s0 := HS5.out.cell 0
    have s1 := HS5.out.cell 1
    simp only [List.getElem?_toArray, List.getElem?_cons_zero, List.getElem?_cons_succ] at s0 s1
    obtain ⟨l0, l1, l2, l3⟩ := HL5.out.cells
    have ks0 := cell_regrown s0
    have ks1 := cell_regrown s1
    have kl0 := cell_regrown l0
    have kl1 := cell_regrown l1
    have kl2 := cell_regrown l2
    have kl3 := cell_regrown l3
    have hqc : ∀ d os, Calls Tryd.prog 60 #[.agg #[.int .i64 lc2.b, .int .i64 lc2.h, .int .i64 lc2.r, .int .i64 lc2.l], .int .i64 u] (grow (redrawn w5 d) os) fun e w'' => e = .returned (.int .i64 vl) ∧ ∃ p : Regrown, w'' = grow (redrawn w5 p.d) p.os := fun d os => by rw [HVL.out]; exact Calls.regrown_of (in_calls lc2 u _)
    refine wp_region_quiet_below (by kernel_rfl) (by kernel_rfl) ?_
    repeat (quiet_step (exact hqc _ _))
    refine wpQuiet_nil ?_
    rintro _ ⟨⟨dqa, oqa⟩, rfl⟩
    have hbga := below_regrown w5 dqa oqa
    have HBa := Hd.mk (bstep HB5.out hbga)
    have HSa := Hd.mk (HS5.out.below hbga HS5.out.lt)
    have HLa := Hd.mk (HL5.out.below hbga HL5.out.lt)
    generalize grow (redrawn w5 dqa) oqa = wa at HBa HSa HLa ⊢
    clear hbga ks0 ks1 kl0 kl1 kl2 kl3 hqc s0 s1 l0 l1 l2 l3
    go_wp2_with fail
    have s0 := HSa.out.cell 0
    have s1 := HSa.out.cell 1
    simp only [List.getElem?_toArray, List.getElem?_cons_zero, List.getElem?_cons_succ] at s0 s1
    obtain ⟨l0, l1, l2, l3⟩ := HLa.out.cells
    have ks0 := cell_regrown s0
    have ks1 := cell_regrown s1
    have kl0 := cell_regrown l0
    have kl1 := cell_regrown l1
    have kl2 := cell_regrown l2
    have kl3 := cell_regrown l3
    have hqc : ∀ d os, Calls Tryd.prog 60 #[.agg #[.int .i64 lc2.b, .int .i64 lc2.h, .int .i64 lc2.r, .int .i64 lc2.l], .int .i64 u] (grow (redrawn wa d) os) fun e w'' => e = .returned (.int .i64 vl) ∧ ∃ p : Regrown, w'' = grow (redrawn wa p.d) p.os := fun d os => by rw [HVL.out]; exact Calls.regrown_of (in_calls lc2 u _)
    refine wp_region_quiet_below (by kernel_rfl) (by kernel_rfl) ?_
    repeat (quiet_step (exact hqc _ _))
    refine wpQuiet_nil ?_
    rintro _ ⟨⟨dqb, oqb⟩, rfl⟩
    have hbgb := below_regrown wa dqb oqb
    have HBb := Hd.mk (bstep HBa.out hbgb)
    have HSb := Hd.mk (HSa.out.below hbgb HSa.out.lt)
    have HLb := Hd.mk (HLa.out.below hbgb HLa.out.lt)
    generalize grow (redrawn wa dqb) oqb = wb at HBb HSb HLb ⊢
    clear hbgb ks0 ks1 kl0 kl1 kl2 kl3 hqc s0 s1 l0 l1 l2 l3
    go_wp2_with fail
    refine (HA.out _ HBb.out).mono ?_
    rintro e w9 ⟨hb9, c9, er9, rfl, hr9⟩
    have HB9 := Hd.mk (bstep HBb.out hb9)
    obtain ⟨rfl, -⟩ : er9 = .nilIface ∧ True := by
      rcases ahead_cases hr9 with ⟨e, -⟩ | ⟨k, -, -, -, hno⟩
      · exact ⟨e, trivial⟩
      · exact absurd ⟨HP.out, HU.out⟩ (hno c)
    clear hb9 hr9
    go_wp2_with fail
    go_ret2
    exact ⟨rfl, ex_alloc HB9.out _⟩
end Go.Proofs.YtgokmldngnmmhaaDoor
