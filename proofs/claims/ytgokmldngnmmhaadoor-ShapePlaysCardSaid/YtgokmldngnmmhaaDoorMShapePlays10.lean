/- Several texts of the proof, one behind the other: RangeB, RangeL. -/
import Derived.Test.YtgokmldngnmmhaaDoorMShapePlays9
import Derived.Lib.QuietBelowIn
import Derived.Sort.BigQuietIn
import Derived.Sort.Grow
/- A range over a function, at the wide fence, by an iterator that keeps a variable of its own, with a body that never leaves: out of the kit's law of one statement (wpIn_rangeFunc). -/
namespace Go.Proofs.YtgokmldngnmmhaaDoor
open Go.RowKit Go.Shelf Go.Sort
section
variable {F : Fence} {n : Nat} {P : Program} {ops : Array Oper} {md : Region.Mode} {C : World → Prop} {l : Nat}
/-- An operation of a round that only reads, out of the walk at the fence itself. -/
theorem oper_round_quiet {o : Oper} {a : Act} {K : Act → Prop} {K' : Act → World → Prop} {Q' : Exit → Act → World → Prop} {w : World} (hnd : ∀ c, o.op ≠ .defer c) (hw : C w) (h : ∀ a w', C w' → K a → K' a w')
    (ha : o.askedIn F P a C) (hh : o.quietIn F n P a C K) : o.wpIn (F.inRound l) n P a w K' Q' := by
  obtain ⟨v, h1, h2⟩ := hh
  have h3 := h1 w hw
  unfold Oper.quietAtIn at h3
  unfold Oper.wpIn
  refine ⟨ha w hw, ?_⟩
  rw [Fence.inRound_round, Oper.semAt_some _ _ _ hnd]
  generalize (execOp a.eval o).run P w = r at *
  cases r with
  | ok x w' =>
    cases x <;> simp only [Oper.quietUponIn] at h3 <;> simp only [Oper.uponIn]
    case value u =>
      obtain ⟨e1, e2⟩ := h3
      rw [e1, e2]
      exact h _ _ hw h2
    case skip =>
      obtain ⟨e1, e2⟩ := h3
      rw [e1, ← e2]
      exact h _ _ hw h2
    case enter f args =>
      obtain ⟨e1, hd, hc⟩ := h3
      rw [e1]
      exact ⟨hd, CallsIn.inRound l (hc.mono fun e w'' ⟨he, hw''⟩ => by subst he; exact h _ _ hw'' h2)⟩
  | halt x w' => simp only [Oper.quietUponIn] at h3
theorem any_round_quiet {Q : Act → Prop} {Q' : Exit → Act → World → Prop} (hnd : ∀ (i : Nat) (o : Oper), ops[i]? = some o → ∀ c, o.op ≠ .defer c) (hQ : ∀ a w, C w → Q a → Q' .normal a w) : ∀ (fuel : Nat) (listed : Array Bool) (a : Act) (w : World), C w →
    wpAnyQIn F n P md ops C Q fuel listed a → wpAnyIn (F.inRound l) n P md ops Q' fuel listed a w
  | 0, _, _, _, hw, h => ⟨h.1, hQ _ _ hw h.2⟩
  | fuel + 1, listed, _, _, hw, h => ⟨fun h0 => hQ _ _ hw (h.1 h0), fun i hi => by
      have hh := h.2 i hi
      have ih := fun a' w' hw' => any_round_quiet hnd hQ fuel (listed.setIfInBounds i true) a' w' hw'
      unfold qOpIn at hh
      unfold wpOpIn
      split
      · rename_i ho; simp only [ho] at hh; exact ih _ _ hw hh
      · rename_i o ho
        simp only [ho] at hh
        obtain ⟨ha, hh⟩ := hh
        split
        · rename_i hw'; simp only [hw', if_true] at hh; exact oper_round_quiet (hnd _ _ ho) hw ih ha hh
        · rename_i hw'; simp only [hw'] at hh; exact ⟨ha _ hw, ih _ _ hw hh⟩⟩
/-- A region of a round that draws its order, whose callees leave what there was: walked once. -/
theorem round_quiet_below {id : Nat} {Q : Exit → Act → World → Prop} {a : Act} {w : World} {ol : List Oper} (hm : P.follows .mixedOrders = true) (hB : Region.lexB .any ol.toArray = true) (hnd : ol.all (fun o : Oper => match o.op with | .defer _ => false | _ => true) = true)
    (h : wpQuietIn F n P ol.toArray (fun w' => ∃ p : Regrown, w' = grow (redrawn w p.d) p.os) (fun a' => ∀ w', (∃ p : Regrown, w' = grow (redrawn w p.d) p.os) → Q .normal a' w') ol a) : (Code.region id ol.toArray true).wpIn (F.inRound l) n P Q a w := by
  simp only [Region.lexB, Bool.and_eq_true] at hB
  refine wpIn_region_any hm (any_round_quiet (Q := fun a' => ∀ w', (∃ p : Regrown, w' = grow (redrawn w p.d) p.os) → Q .normal a' w') ?_ (fun _ w' hw' h => h w' hw') _ _ _ _ ⟨⟨w.drawn + 1, #[]⟩, by rw [grow_empty]; rfl⟩ ?_)
  · intro i o ho c hc
    simp only [List.getElem?_toArray] at ho
    have := List.all_eq_true.1 hnd o (List.mem_of_getElem? ho)
    rw [hc] at this
    cases this
  · have := wpAnyQIn_lex (F := F) (n := n) (C := fun w' => ∃ p : Regrown, w' = grow (redrawn w p.d) p.os) (md := .any) hB.1 ol.toArray.toList 0 (Array.replicate ol.toArray.size false) a (by simp) (by simpa using hB.2) (by simpa using h)
    simpa using this
end
section
variable {P : Program} {n : Nat} {g : Operand} {ps : Array Tmp} {assign body : Code} {Q : Exit → Act → World → Prop} {a : Act} {w : World}
/-- What is asked of the iterator. -/
def IterB (P : Program) (n gf : Nat) (lb : Array Value) (xs : Nat → Array Value) (N iB : Nat) (w : World) : Prop :=
  ∀ (l : Nat) (J Jx : Nat → World → Prop) (W : World), Below w.heap.size w W → (∀ k A B, J k A → Below W.heap.size A B → J k B) →
    (∀ k A, k < N → J k A → YieldAt Fence.wide (n - 1) P l (xs k) A fun e A' => (e = .returned (.bool true) ∧ J (k + 1) A' ∧ KpB iB A A') ∨ (e = .returned (.bool false) ∧ Jx (k + 1) A')) →
    J 0 W → CallsIn Fence.wide n P gf (#[.func (.yield l) #[] #[]] ++ lb) W fun e W' => (∃ v, e = .returned v) ∧ (J N W' ∨ ∃ k, k ≤ N ∧ Jx k W')
/-- What a round of the body gives: all blocks that there were, but one, lie as they lay. -/
def BodyB (I : Nat → World → Prop) (k iB : Nat) (W : World) (e : Exit) (_ : Act) (W' : World) : Prop :=
  e = .normal ∧ I (k + 1) W' ∧ W.heap.size ≤ W'.heap.size ∧ ∀ b, b < W.heap.size → b ≠ iB → W'.heap[b]? = W.heap[b]?
theorem putObj_below {B : Nat} (W : World) (l : Nat) (o : Obj) (h : B ≤ l) : Below B W (W.putObj l o) :=
  ⟨rfl, rfl, rfl, by simp, fun _ hk => World.putObj_heap_other (by omega)⟩
theorem range_b {gf : Nat} {lb : Array Value} (hg : a.eval g = .func (.func gf) #[] lb) (eg : ∀ args w, (callFunc gf args).run P w = .ok (.enter gf args) w)
    {xs : Nat → Array Value} {N iB : Nat} (hib : iB < w.heap.size) (hseq : IterB P (n - 1) gf lb xs N iB w) (hps : ∀ k, (xs k).size = ps.size)
    (I : Nat → World → Prop) (hI : ∀ k A B, I k A → Below w.heap.size A B → I k B) (h0 : I 0 w)
    (hround : ∀ (l k : Nat) (W : World), k < N → I k W → w.heap.size + 1 < W.heap.size →
      assign.wpIn (Fence.wide.inRound l) (n - 1 - 1) P (Exit.then (fun a' W' => Below W.heap.size W W' ∧
        ∀ o, body.wpIn (Fence.wide.inRound l) (n - 1 - 1) P (BodyB I k iB (W'.putObj (w.heap.size + 1) o)) a' (W'.putObj (w.heap.size + 1) o)) (fun _ _ _ => False))
        { tmps := (ps.zip (xs k)).foldl (fun t (p, v) => t.setIfInBounds p v) a.tmps, defers := [] } W)
    (hdone : ∀ W, I N W → W.heap[w.heap.size]? = some (.deferred (some [])) → Q .normal { a with defers := { target := .collected w.heap.size, args := #[] } :: a.defers } W) :
    (Code.rangeFunc g ps assign body).wpIn Fence.wide n P Q a w := by
  refine wpIn_rangeFunc ?_
  intro fn hfn
  obtain ⟨rec, hrec⟩ : ∃ rec : LoopState → Loop, rec = fun st => { state := st, pending := none, fn, tmps := a.tmps, params := ps, assign, body, defers := w.heap.size } := ⟨_, rfl⟩
  have hsz1 : (w.alloc (.deferred (some []))).heap.size = w.heap.size + 1 := World.size_alloc _ _
  have hL1 : ((w.alloc (.deferred (some []))).alloc (.loop (rec .ready))).heap[w.heap.size + 1]? = some (.loop (rec .ready)) := by
    have := World.alloc_heap_new (w.alloc (.deferred (some []))) (.loop (rec .ready))
    rwa [hsz1] at this
  have hK1 : ((w.alloc (.deferred (some []))).alloc (.loop (rec .ready))).heap[w.heap.size]? = some (.deferred (some [])) :=
    (Below.heap_alloc _ _ _ (by rw [hsz1]; omega)).trans (World.alloc_heap_new w _)
  have hb1 : Below w.heap.size w ((w.alloc (.deferred (some []))).alloc (.loop (rec .ready))) := ((Below.refl _ w).alloc (Nat.le_refl _) _).alloc (by rw [hsz1]; omega) _
  have hz2 : ((w.alloc (.deferred (some []))).alloc (.loop (rec .ready))).heap.size = w.heap.size + 2 := by rw [World.size_alloc, hsz1]
  refine ⟨w.heap.size + 1, [{ target := .collected w.heap.size, args := #[] }], (w.alloc (.deferred (some []))).alloc (.loop (rec .ready)), { target := .fn (.func gf) lb, args := #[.func (.yield (w.heap.size + 1)) #[] #[]] },
    (w.alloc (.deferred (some []))).alloc (.loop (rec .ready)), gf, #[.func (.yield (w.heap.size + 1)) #[] #[]] ++ lb, (w.alloc (.deferred (some []))).alloc (.loop (rec .ready)), ?_, ?_, fun _ _ => trivial, ?_, fun h => absurd h (by decide), ?_⟩
  · rw [hrec]; exact run_enterLoop_outer _ _ _ _ _
  · simp only [resolve, hg]
    simp [go_sem]
  · simp [invoke, go_sem, eg]
  · generalize (w.alloc (.deferred (some []))).alloc (.loop (rec .ready)) = W1 at *
    have hI1 : I 0 W1 := hI 0 _ _ h0 hb1
    refine (hseq (w.heap.size + 1) (fun k W => I k W ∧ W.heap[w.heap.size + 1]? = some (.loop (rec .ready)) ∧ W.heap[w.heap.size]? = some (.deferred (some []))) (fun _ _ => False) W1 hb1 ?_ ?_ ⟨hI1, hL1, hK1⟩).mono ?_
    · rintro k A B ⟨hi, hl, hk⟩ hb
      exact ⟨hI k _ _ hi (hb.mono (by omega)), (hb.block _ (by omega)).trans hl, (hb.block _ (by omega)).trans hk⟩
    · rintro k A hk ⟨hi, hl, hd⟩
      have hlt : w.heap.size + 1 < A.heap.size := (Array.getElem?_eq_some_iff.1 hl).1
      have hy := run_yield (P := P) (args := xs k) hl (by rw [hrec]; exact hps k)
      rw [hrec] at hy
      refine ⟨fn, _, assign, body, hy, roundIn_of_wpIn hfn (wpIn_mono (hround _ k A hk hi hlt) ?_)⟩
      rintro e a' WA h
      cases e <;> first | exact False.elim h | skip
      obtain ⟨hwa, hax⟩ := h
      have hlA : WA.heap[w.heap.size + 1]? = some (.loop (rec .ready)) := (hwa.block _ hlt).trans hl
      have hltA : w.heap.size + 1 < WA.heap.size := (Array.getElem?_eq_some_iff.1 hlA).1
      have hzA := hwa.size
      rw [hrec] at hlA
      refine ⟨_, run_beginRound hlA rfl, ?_⟩
      refine wpIn_mono (hax _) ?_
      rintro e a3 W3 ⟨rfl, hi3, hz3, hb3⟩
      simp only [World.putObj_size] at hz3 hb3
      have hl3 : W3.heap[w.heap.size + 1]? = some (.loop { rec .ready with state := .busy }) := by
        rw [hrec]; exact (hb3 _ hltA (by omega)).trans (World.putObj_heap_same hltA)
      have hd3 : W3.heap[w.heap.size]? = some (.deferred (some [])) := (hb3 _ (by omega) (by omega)).trans ((World.putObj_heap_other (by omega)).trans ((hwa.block _ (by omega)).trans hd))
      have hr := run_endRound (P := P) none hl3
      have hlt3 : w.heap.size + 1 < W3.heap.size := (Array.getElem?_eq_some_iff.1 hl3).1
      refine ⟨_, _, hr, .inl ⟨rfl, ⟨hI _ _ _ hi3 (putObj_below W3 (w.heap.size + 1) _ (by omega)), ?_, (World.putObj_heap_other (by omega)).trans hd3⟩, ?_, ?_⟩⟩
      · rw [World.putObj_heap_same hlt3, hrec]; rfl
      · simp only [World.putObj_size]; omega
      · intro b cs t hbk hbi
        have hbl : b < A.heap.size := (Array.getElem?_eq_some_iff.1 hbk).1
        have hne : b ≠ w.heap.size + 1 := fun e => by subst e; rw [hl] at hbk; cases hbk
        rw [World.putObj_heap_other hne, hb3 b (by omega) hbi, World.putObj_heap_other hne, hwa.block b hbl]
        exact hbk
    · rintro e W2 ⟨⟨v, rfl⟩, (⟨hi, hl, hd⟩ | ⟨_, _, h⟩)⟩
      · refine ⟨none, _, by have := run_endLoop (P := P) hl (by rw [hrec]; simp); rw [hrec] at this; exact this, ?_⟩
        exact hdone _ (hI _ _ _ hi (putObj_below W2 (w.heap.size + 1) _ (by omega))) ((World.putObj_heap_other (by omega)).trans hd)
      · exact h.elim
end
end Go.Proofs.YtgokmldngnmmhaaDoor
/- A range over a function, at the wide fence, by an iterator that keeps a variable of its own, with a body that may return. -/
namespace Go.Proofs.YtgokmldngnmmhaaDoor
open Go.RowKit Go.Shelf Go.Sort
section
variable {P : Program} {n : Nat} {g : Operand} {ps : Array Tmp} {assign body : Code} {Q : Exit → Act → World → Prop} {a : Act} {w : World}
/-- What a round of the body gives: as BodyB; or it has returned. -/
def BodyL (I : Nat → World → Prop) (X : World → Prop) (k iB B : Nat) (W : World) (e : Exit) (_ : Act) (W' : World) : Prop :=
  (e = .normal ∧ I (k + 1) W' ∧ W.heap.size ≤ W'.heap.size ∧ ∀ b, b < W.heap.size → b ≠ iB → W'.heap[b]? = W.heap[b]?) ∨
  (e = .ret ∧ X W' ∧ W.heap.size ≤ W'.heap.size ∧ ∀ b, b = B ∨ b = B + 1 → W'.heap[b]? = W.heap[b]?)
theorem range_l {gf : Nat} {lb : Array Value} (hg : a.eval g = .func (.func gf) #[] lb) (eg : ∀ args w, (callFunc gf args).run P w = .ok (.enter gf args) w)
    {xs : Nat → Array Value} {N iB : Nat} (hib : iB < w.heap.size) (hseq : IterB P (n - 1) gf lb xs N iB w) (hps : ∀ k, (xs k).size = ps.size)
    (I : Nat → World → Prop) (X : World → Prop) (hI : ∀ k A B, I k A → Below w.heap.size A B → I k B) (hX : ∀ A B, X A → Below w.heap.size A B → X B) (h0 : I 0 w)
    (hround : ∀ (l k : Nat) (W : World), k < N → I k W → w.heap.size + 1 < W.heap.size →
      assign.wpIn (Fence.wide.inRound l) (n - 1 - 1) P (Exit.then (fun a' W' => Below W.heap.size W W' ∧
        ∀ o, body.wpIn (Fence.wide.inRound l) (n - 1 - 1) P (BodyL I X k iB w.heap.size (W'.putObj (w.heap.size + 1) o)) a' (W'.putObj (w.heap.size + 1) o)) (fun _ _ _ => False))
        { tmps := (ps.zip (xs k)).foldl (fun t (p, v) => t.setIfInBounds p v) a.tmps, defers := [] } W)
    (hdone : ∀ W, I N W → W.heap[w.heap.size]? = some (.deferred (some [])) → Q .normal { a with defers := { target := .collected w.heap.size, args := #[] } :: a.defers } W)
    (hleft : ∀ W, X W → W.heap[w.heap.size]? = some (.deferred (some [])) → Q .ret { a with defers := { target := .collected w.heap.size, args := #[] } :: a.defers } W) :
    (Code.rangeFunc g ps assign body).wpIn Fence.wide n P Q a w := by
  refine wpIn_rangeFunc ?_
  intro fn hfn
  obtain ⟨rec, hrec⟩ : ∃ rec : LoopState → Loop, rec = fun st => { state := st, pending := none, fn, tmps := a.tmps, params := ps, assign, body, defers := w.heap.size } := ⟨_, rfl⟩
  have hsz1 : (w.alloc (.deferred (some []))).heap.size = w.heap.size + 1 := World.size_alloc _ _
  have hL1 : ((w.alloc (.deferred (some []))).alloc (.loop (rec .ready))).heap[w.heap.size + 1]? = some (.loop (rec .ready)) := by
    have := World.alloc_heap_new (w.alloc (.deferred (some []))) (.loop (rec .ready))
    rwa [hsz1] at this
  have hK1 : ((w.alloc (.deferred (some []))).alloc (.loop (rec .ready))).heap[w.heap.size]? = some (.deferred (some [])) :=
    (Below.heap_alloc _ _ _ (by rw [hsz1]; omega)).trans (World.alloc_heap_new w _)
  have hb1 : Below w.heap.size w ((w.alloc (.deferred (some []))).alloc (.loop (rec .ready))) := ((Below.refl _ w).alloc (Nat.le_refl _) _).alloc (by rw [hsz1]; omega) _
  have hz2 : ((w.alloc (.deferred (some []))).alloc (.loop (rec .ready))).heap.size = w.heap.size + 2 := by rw [World.size_alloc, hsz1]
  refine ⟨w.heap.size + 1, [{ target := .collected w.heap.size, args := #[] }], (w.alloc (.deferred (some []))).alloc (.loop (rec .ready)), { target := .fn (.func gf) lb, args := #[.func (.yield (w.heap.size + 1)) #[] #[]] },
    (w.alloc (.deferred (some []))).alloc (.loop (rec .ready)), gf, #[.func (.yield (w.heap.size + 1)) #[] #[]] ++ lb, (w.alloc (.deferred (some []))).alloc (.loop (rec .ready)), ?_, ?_, fun _ _ => trivial, ?_, fun h => absurd h (by decide), ?_⟩
  · rw [hrec]; exact run_enterLoop_outer _ _ _ _ _
  · simp only [resolve, hg]
    simp [go_sem]
  · simp [invoke, go_sem, eg]
  · generalize (w.alloc (.deferred (some []))).alloc (.loop (rec .ready)) = W1 at *
    have hI1 : I 0 W1 := hI 0 _ _ h0 hb1
    refine (hseq (w.heap.size + 1) (fun k W => I k W ∧ W.heap[w.heap.size + 1]? = some (.loop (rec .ready)) ∧ W.heap[w.heap.size]? = some (.deferred (some []))) (fun k W => X W ∧ W.heap[w.heap.size + 1]? = some (.loop { rec .done with pending := some .ret }) ∧ W.heap[w.heap.size]? = some (.deferred (some []))) W1 hb1 ?_ ?_ ⟨hI1, hL1, hK1⟩).mono ?_
    · rintro k A B ⟨hi, hl, hk⟩ hb
      exact ⟨hI k _ _ hi (hb.mono (by omega)), (hb.block _ (by omega)).trans hl, (hb.block _ (by omega)).trans hk⟩
    · rintro k A hk ⟨hi, hl, hd⟩
      have hlt : w.heap.size + 1 < A.heap.size := (Array.getElem?_eq_some_iff.1 hl).1
      have hy := run_yield (P := P) (args := xs k) hl (by rw [hrec]; exact hps k)
      rw [hrec] at hy
      refine ⟨fn, _, assign, body, hy, roundIn_of_wpIn hfn (wpIn_mono (hround _ k A hk hi hlt) ?_)⟩
      rintro e a' WA h
      cases e <;> first | exact False.elim h | skip
      obtain ⟨hwa, hax⟩ := h
      have hlA : WA.heap[w.heap.size + 1]? = some (.loop (rec .ready)) := (hwa.block _ hlt).trans hl
      have hltA : w.heap.size + 1 < WA.heap.size := (Array.getElem?_eq_some_iff.1 hlA).1
      have hzA := hwa.size
      rw [hrec] at hlA
      refine ⟨_, run_beginRound hlA rfl, ?_⟩
      refine wpIn_mono (hax _) ?_
      rintro e a3 W3 (⟨rfl, hi3, hz3, hb3⟩ | ⟨rfl, hx3, hz3, hb3⟩)
      · simp only [World.putObj_size] at hz3 hb3
        have hl3 : W3.heap[w.heap.size + 1]? = some (.loop { rec .ready with state := .busy }) := by
          rw [hrec]; exact (hb3 _ hltA (by omega)).trans (World.putObj_heap_same hltA)
        have hd3 : W3.heap[w.heap.size]? = some (.deferred (some [])) := (hb3 _ (by omega) (by omega)).trans ((World.putObj_heap_other (by omega)).trans ((hwa.block _ (by omega)).trans hd))
        have hr := run_endRound (P := P) none hl3
        have hlt3 : w.heap.size + 1 < W3.heap.size := (Array.getElem?_eq_some_iff.1 hl3).1
        refine ⟨_, _, hr, .inl ⟨rfl, ⟨hI _ _ _ hi3 (putObj_below W3 (w.heap.size + 1) _ (by omega)), ?_, (World.putObj_heap_other (by omega)).trans hd3⟩, ?_, ?_⟩⟩
        · rw [World.putObj_heap_same hlt3, hrec]; rfl
        · simp only [World.putObj_size]; omega
        · intro b cs t hbk hbi
          have hbl : b < A.heap.size := (Array.getElem?_eq_some_iff.1 hbk).1
          have hne : b ≠ w.heap.size + 1 := fun e => by subst e; rw [hl] at hbk; cases hbk
          rw [World.putObj_heap_other hne, hb3 b (by omega) hbi, World.putObj_heap_other hne, hwa.block b hbl]
          exact hbk
      · simp only [World.putObj_size] at hz3
        have hl3 : W3.heap[w.heap.size + 1]? = some (.loop { rec .ready with state := .busy }) := by
          rw [hrec]; exact (hb3 _ (.inr rfl)).trans (World.putObj_heap_same hltA)
        have hd3 : W3.heap[w.heap.size]? = some (.deferred (some [])) := (hb3 _ (.inl rfl)).trans ((World.putObj_heap_other (by omega)).trans ((hwa.block _ (by omega)).trans hd))
        have hr := run_endRound (P := P) (some .ret) hl3
        have hlt3 : w.heap.size + 1 < W3.heap.size := (Array.getElem?_eq_some_iff.1 hl3).1
        refine ⟨_, _, hr, .inr ⟨rfl, hX _ _ hx3 (putObj_below W3 (w.heap.size + 1) _ (by omega)), ?_, (World.putObj_heap_other (by omega)).trans hd3⟩⟩
        rw [World.putObj_heap_same hlt3, hrec]; rfl
    · rintro e W2 ⟨⟨v, rfl⟩, (⟨hi, hl, hd⟩ | ⟨_, _, h⟩)⟩
      · refine ⟨none, _, by have := run_endLoop (P := P) hl (by rw [hrec]; simp); rw [hrec] at this; exact this, ?_⟩
        exact hdone _ (hI _ _ _ hi (putObj_below W2 (w.heap.size + 1) _ (by omega))) ((World.putObj_heap_other (by omega)).trans hd)
      · refine ⟨some .ret, _, by have := run_endLoop (P := P) h.2.1 (by rw [hrec]; simp); rw [hrec] at this; exact this, ?_⟩
        exact wpIn_ret (hleft _ (hX _ _ h.1 (putObj_below W2 (w.heap.size + 1) _ (by omega))) ((World.putObj_heap_other (by omega)).trans h.2.2))
end
end Go.Proofs.YtgokmldngnmmhaaDoor
