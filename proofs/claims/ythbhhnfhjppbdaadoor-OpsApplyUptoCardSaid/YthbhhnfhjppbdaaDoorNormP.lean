/- Norm in plain Lean: bounds, and what its parts are. -/
import Derived.Test.YthbhhnfhjppbdaaDoorNormM
namespace Go.Proofs.YthbhhnfhjppbdaaDoor
/-- How much is put in all. -/
def plen : List PT → Nat
  | [] => 0
  | p :: l => p.put.length + plen l
theorem plen_append (a b : List PT) : plen (a ++ b) = plen a + plen b := by
  induction a with
  | nil => simp [plen]
  | cons p a ih => rw [List.cons_append, plen, plen, ih]; omega
theorem plen_take (l : List PT) (k : Nat) : plen (l.take k) ≤ plen l := by
  conv => rhs; rw [← List.take_append_drop k l]
  rw [plen_append]; omega
theorem was_nn {l : List PT} (h : ∀ p ∈ l, p.arg) : 0 ≤ was l := by
  induction l with
  | nil => simp [was]
  | cons p l ih =>
    have h1 := h p (by simp)
    have h2 := ih (fun q hq => h q (by simp [hq]))
    obtain ⟨_, h3, h4⟩ := h1
    rw [was]; omega
theorem was_take {l : List PT} (h : ∀ p ∈ l, p.arg) (k : Nat) : was (l.take k) ≤ was l := by
  conv => rhs; rw [← List.take_append_drop k l]
  rw [was_append]
  have := was_nn (l := l.drop k) (fun p hp => h p (List.mem_of_mem_drop hp))
  omega
theorem flushP_length (b : U.Bs) (d : Int) : (flushP b d).length ≤ 2 := by
  unfold flushP
  split <;> split <;> simp
theorem step_bd {s : NS} {p : PT} (h : p.arg) (hd : 0 ≤ s.drop) : (s.step p).out.length ≤ s.out.length + 3 ∧ (s.step p).put.length ≤ s.put.length + p.put.length ∧ 0 ≤ (s.step p).drop ∧ (s.step p).drop ≤ s.drop + p.drop := by
  obtain ⟨h1, h2, h3⟩ := h
  unfold NS.step
  split
  · exact ⟨by dsimp only; omega, by simp, hd, by dsimp only; omega⟩
  · split
    · exact ⟨by dsimp only; omega, by dsimp only; omega, by dsimp only; omega, by dsimp only; omega⟩
    · split
      · unfold NS.kept
        split
        · have := flushP_length s.put s.drop
          exact ⟨by simp [NS.all]; omega, by simp, by simp, by dsimp only; omega⟩
        · exact ⟨by dsimp only; rw [moreLast_length]; omega, by simp, by simp, by dsimp only; omega⟩
      · exact ⟨by omega, by omega, hd, by omega⟩
theorem nrun_bd {l : List PT} (h : ∀ p ∈ l, p.arg) (k : Nat) : (nrun .zero (l.take k)).out.length ≤ 3 * k ∧ (nrun .zero (l.take k)).put.length ≤ plen l ∧ 0 ≤ (nrun .zero (l.take k)).drop ∧ (nrun .zero (l.take k)).drop ≤ was l := by
  suffices hs : ∀ m (s : List PT), s.length = m → (∀ p ∈ s, p.arg) → (nrun .zero s).out.length ≤ 3 * m ∧ (nrun .zero s).put.length ≤ plen s ∧ 0 ≤ (nrun .zero s).drop ∧ (nrun .zero s).drop ≤ was s by
    obtain ⟨a, b, c, d⟩ := hs _ _ rfl (fun p hp => h p (List.mem_of_mem_take hp))
    rw [List.length_take] at a
    exact ⟨by omega, Nat.le_trans b (plen_take l k), c, Int.le_trans d (was_take h k)⟩
  intro m
  induction m with
  | zero =>
    intro s hs _
    obtain rfl := List.eq_nil_of_length_eq_zero hs
    exact ⟨by simp [nrun, NS.zero], by simp [nrun, NS.zero], by simp [nrun, NS.zero], by simp [nrun, NS.zero, was]⟩
  | succ m ih =>
    intro s hs ha
    have hne : s ≠ [] := by intro e; subst e; simp at hs
    have e := List.dropLast_concat_getLast hne
    generalize s.getLast hne = p at e
    generalize s.dropLast = t at e
    subst e
    obtain ⟨a, b, c, d⟩ := ih t (by simpa using hs) (fun q hq => ha q (by simp [hq]))
    obtain ⟨a2, b2, c2, d2⟩ := step_bd (s := nrun .zero t) (ha p (by simp)) c
    have hk := (ha p (by simp)).2.1
    have e2 : nrun .zero (t ++ [p]) = (nrun .zero t).step p := by rw [nrun_append]; rfl
    rw [e2, plen_append, was_append]
    simp only [plen, was]
    exact ⟨by omega, by omega, c2, by omega⟩
theorem nrun_snoc {l : List PT} {k : Nat} (h : k < l.length) : nrun .zero (l.take (k + 1)) = (nrun .zero (l.take k)).step l[k] := by
  rw [List.take_succ_eq_append_getElem h, nrun_append]; rfl
/-- What holds of Norm's state. -/
structure NOk (s : NS) : Prop where
  d : 0 ≤ s.drop
  a : ∀ p ∈ s.out, p.arg
  e : s.out = [] ∨ ∃ (i : List PT) (k : Int), 0 < k ∧ s.out = i ++ [⟨k, 0, []⟩]
theorem flushP_arg (b : U.Bs) (d : Int) : ∀ p ∈ flushP b d, p.arg := by
  intro p hp
  unfold flushP at hp
  rw [List.mem_append] at hp
  rcases hp with hp | hp
  · split at hp
    · simp at hp
    · rename_i h
      obtain rfl := List.mem_singleton.1 hp
      exact PT.arg_put h
  · split at hp
    · rename_i h
      obtain rfl := List.mem_singleton.1 hp
      exact PT.arg_drop h
    · simp at hp
theorem flushP_was (b : U.Bs) {d : Int} (h : 0 ≤ d) : was (flushP b d) = d ∧ plen (flushP b d) = b.length := by
  unfold flushP
  constructor
  · rw [was_append]
    split <;> split <;> simp [was] <;> omega
  · rw [plen_append]
    split <;> split <;> simp_all [plen]
theorem step_ok {s : NS} {p : PT} (h : NOk s) (ha : p.arg) : NOk (s.step p) ∧ was (s.step p).out + (s.step p).drop = was s.out + s.drop + (p.keep + p.drop) ∧ plen (s.step p).out + (s.step p).put.length = plen s.out + s.put.length + p.put.length := by
  obtain ⟨h1, h2, h3⟩ := h
  rcases ha.cases with ⟨q, hq, rfl⟩ | ⟨m, hm, rfl⟩ | ⟨m, hm, rfl⟩
  · have e : s.step ⟨0, 0, q⟩ = ⟨s.out, s.put ++ q, s.drop⟩ := by simp [NS.step, hq]
    rw [e]; exact ⟨⟨h1, h2, h3⟩, by dsimp only; omega, by simp; omega⟩
  · have e : s.step ⟨0, m, []⟩ = ⟨s.out, s.put, s.drop + m⟩ := by simp [NS.step, hm]
    rw [e]; exact ⟨⟨by dsimp only; omega, h2, h3⟩, by dsimp only; omega, by simp⟩
  · have e : s.step ⟨m, 0, []⟩ = s.kept ⟨m, 0, []⟩ := by
      simp only [NS.step, ne_eq, not_true_eq_false, if_false, Int.lt_irrefl]
      rw [if_pos (by omega)]
    rw [e]; unfold NS.kept
    split
    · rename_i hc
      obtain ⟨f1, f2⟩ := flushP_was s.put h1
      refine ⟨⟨Int.le_refl _, ?_, .inr ⟨s.all, m, by omega, rfl⟩⟩, ?_, ?_⟩
      · intro p hp
        dsimp only [NS.all] at hp
        rw [List.mem_append, List.mem_append] at hp
        rcases hp with (hp | hp) | hp
        · exact h2 p hp
        · exact flushP_arg _ _ p hp
        · obtain rfl := List.mem_singleton.1 hp
          exact PT.arg_keep (by omega)
      · dsimp only [NS.all]
        rw [was_append, was_append, f1]; simp [was]
      · dsimp only [NS.all]
        rw [plen_append, plen_append, f2]; simp [plen]
    · rename_i hc
      have e1 : s.put = [] := by
        by_cases e : s.put = []
        · exact e
        · exact absurd (.inl e) hc
      have e2 : s.drop = 0 := by
        by_cases e : 0 < s.drop
        · exact absurd (.inr (.inl e)) hc
        · omega
      rcases h3 with h3 | ⟨i, k, hk, h3⟩
      · exact absurd (.inr (.inr h3)) hc
      · rw [h3, moreLast_snoc, e1, e2]
        rw [h3] at h2
        refine ⟨⟨Int.le_refl _, ?_, .inr ⟨i, k + m, by omega, rfl⟩⟩, ?_, ?_⟩
        · intro p hp
          dsimp only at hp
          rw [List.mem_append] at hp
          rcases hp with hp | hp
          · exact h2 p (by simp [hp])
          · obtain rfl := List.mem_singleton.1 hp
            exact PT.arg_keep (by omega)
        · dsimp only; rw [was_append, was_append]; simp [was]; omega
        · dsimp only; rw [plen_append, plen_append]; simp [plen]
theorem NOk.zero : NOk .zero := ⟨Int.le_refl _, fun p hp => by simp [NS.zero] at hp, .inl rfl⟩
theorem nrun_ok {l : List PT} (h : ∀ p ∈ l, p.arg) (s : NS) (hs : NOk s) : NOk (nrun s l) ∧ was (nrun s l).out + (nrun s l).drop = was s.out + s.drop + was l ∧ plen (nrun s l).out + (nrun s l).put.length = plen s.out + s.put.length + plen l := by
  induction l generalizing s with
  | nil => exact ⟨hs, by simp [nrun, was], by simp [nrun, plen]⟩
  | cons p l ih =>
    obtain ⟨a, b, c⟩ := step_ok hs (h p (by simp))
    obtain ⟨a2, b2, c2⟩ := ih (fun q hq => h q (by simp [hq])) _ a
    rw [nrun_cons, was, plen]
    exact ⟨a2, by omega, by omega⟩
theorem norm_ok {l : List PT} (h : ∀ p ∈ l, p.arg) : (∀ p ∈ norm l, p.arg) ∧ was (norm l) = was l ∧ plen (norm l) = plen l := by
  obtain ⟨a, b, c⟩ := nrun_ok h .zero NOk.zero
  unfold norm NS.all
  obtain ⟨f1, f2⟩ := flushP_was (nrun .zero l).put a.d
  refine ⟨?_, ?_, ?_⟩
  · intro p hp
    rw [List.mem_append] at hp
    rcases hp with hp | hp
    · exact a.a p hp
    · exact flushP_arg _ _ p hp
  · rw [was_append, f1, b]; simp [NS.zero, was]
  · rw [plen_append, f2, c]; simp [NS.zero, plen]
theorem norm_length {l : List PT} (h : ∀ p ∈ l, p.arg) : (norm l).length ≤ 3 * l.length + 2 := by
  have := (nrun_bd h l.length).1
  rw [List.take_length] at this
  have := flushP_length (nrun .zero l).put (nrun .zero l).drop
  unfold norm NS.all
  rw [List.length_append]; omega
end Go.Proofs.YthbhhnfhjppbdaaDoor
