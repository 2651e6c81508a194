/- Plain facts about a text gone through rune by rune: what it begins with, where that ends. -/
import Derived.Test.YtgokmldngnmmhaaUtfM
namespace Go.Proofs.Ytgokmldngnmmhaa
namespace U
def encs (rs : List Int) : Bs := rs.flatMap enc
theorem encs_nil : encs [] = [] := rfl
theorem encs_cons (r : Int) (rs : List Int) : encs (r :: rs) = enc r ++ encs rs := by simp [encs]
theorem encs_append (a b : List Int) : encs (a ++ b) = encs a ++ encs b := by simp [encs]
def AllR (rs : List Int) : Prop := ∀ r ∈ rs, right r = true
/-- s is the bytes of rs, and behind them a rest at whose beginning no rune is. -/
structure Sp (s : Bs) (rs : List Int) (rest : Bs) : Prop where
  all : AllR rs
  eq : s = encs rs ++ rest
  bad : (next rest).2 = 0
theorem next_cases (s : Bs) : next s = (0, 0) ∨ (next s).2 ≠ 0 := by
  unfold next
  repeat' split
  all_goals first | exact .inl rfl | (right; simp; done)
theorem next_zero {s : Bs} (h : (next s).2 = 0) : next s = (0, 0) := (next_cases s).resolve_right (fun g => g h)
theorem next_le (s : Bs) : (next s).2 ≤ s.length := by
  by_cases h : (next s).2 = 0
  · omega
  · obtain ⟨_, h2, h3⟩ := next_pos s h
    have := congrArg List.length h3
    rw [List.length_append, enc_length, List.length_drop] at this
    omega
theorem sp_exists (s : Bs) : ∃ rs rest, Sp s rs rest := by
  generalize hn : s.length = n
  induction n using Nat.strongRecOn generalizing s with
  | _ n ih =>
    by_cases h : (next s).2 = 0
    · exact ⟨[], s, fun r hr => by simp at hr, rfl, h⟩
    · obtain ⟨h1, h2, h3⟩ := next_pos s h
      have hl := next_le s
      obtain ⟨rs, rest, g1, g2, g3⟩ := ih (s.drop (next s).2).length (by rw [List.length_drop]; omega) (s.drop (next s).2) rfl
      refine ⟨(next s).1 :: rs, rest, ?_, ?_, g3⟩
      · intro r hr
        rcases List.mem_cons.1 hr with rfl | hr
        · exact h1
        · exact g1 r hr
      · rw [encs_cons, List.append_assoc, ← g2]; exact h3
def off (rs : List Int) (k : Nat) : Nat := (encs (rs.take k)).length
theorem off_zero (rs : List Int) : off rs 0 = 0 := rfl
theorem off_succ {rs : List Int} {k : Nat} (h : k < rs.length) : off rs (k + 1) = off rs k + wid rs[k] := by
  unfold off
  rw [List.take_succ_eq_append_getElem h, encs_append, List.length_append, encs_cons, encs_nil, List.append_nil, enc_length]
theorem encs_drop_off (rs : List Int) (k : Nat) (rest : Bs) : (encs rs ++ rest).drop (off rs k) = encs (rs.drop k) ++ rest := by
  have : encs rs ++ rest = encs (rs.take k) ++ (encs (rs.drop k) ++ rest) := by rw [← List.append_assoc, ← encs_append, List.take_append_drop]
  rw [this]; unfold off; rw [List.drop_left]
variable {s : Bs} {rs : List Int} {rest : Bs}
theorem Sp.drop (h : Sp s rs rest) (k : Nat) : s.drop (off rs k) = encs (rs.drop k) ++ rest := by rw [h.eq, encs_drop_off]
theorem Sp.next_at (h : Sp s rs rest) {k : Nat} (hk : k < rs.length) : next (s.drop (off rs k)) = (rs[k], wid rs[k]) := by
  rw [h.drop, List.drop_eq_getElem_cons hk, encs_cons, List.append_assoc]
  exact next_enc (h.all _ (List.getElem_mem hk)) _
theorem Sp.next_end (h : Sp s rs rest) : next (s.drop (off rs rs.length)) = (0, 0) := by
  rw [h.drop, List.drop_length, encs_nil, List.nil_append]
  exact next_zero h.bad
theorem off_full (rs : List Int) : off rs rs.length = (encs rs).length := by unfold off; rw [List.take_length]
theorem Sp.length (h : Sp s rs rest) : s.length = off rs rs.length + rest.length := by rw [h.eq, List.length_append, off_full]
theorem off_lt {k : Nat} (h : k < rs.length) : off rs k < off rs rs.length := by
  have e : off rs rs.length = off rs k + (encs (rs.drop k)).length := by
    rw [off_full, off, ← List.length_append, ← encs_append, List.take_append_drop]
  rw [e, List.drop_eq_getElem_cons h, encs_cons, List.length_append, enc_length]
  have := wid_pos rs[k]
  omega
theorem off_le {k : Nat} (h : k ≤ rs.length) : off rs k ≤ off rs rs.length := by
  rcases Nat.lt_or_ge k rs.length with h1 | h1
  · exact Nat.le_of_lt (off_lt h1)
  · rw [show k = rs.length from Nat.le_antisymm h h1]; exact Nat.le_refl _
theorem len_le_off (rs : List Int) : rs.length ≤ off rs rs.length := by
  induction rs with
  | nil => simp
  | cons r rs ih =>
    rw [off_full] at ih ⊢
    rw [encs_cons, List.length_append, enc_length, List.length_cons]
    have := wid_pos r
    omega
theorem Sp.unique {rs' : List Int} {rest' : Bs} (h : Sp s rs rest) (h' : Sp s rs' rest') : rs = rs' ∧ rest = rest' := by
  induction rs generalizing s rs' with
  | nil =>
    cases rs' with
    | nil => exact ⟨rfl, by have := h.eq.symm.trans h'.eq; simpa [encs] using this⟩
    | cons r rs' =>
      have h1 := h.next_end
      have h2 := h'.next_at (k := 0) (by simp)
      rw [off_zero, List.drop_zero] at h2
      simp [off_zero] at h1
      rw [h1] at h2
      have := wid_pos r
      simp at h2; omega
  | cons r rs ih =>
    have h1 := h.next_at (k := 0) (by simp)
    rw [off_zero, List.drop_zero] at h1
    cases rs' with
    | nil =>
      have h2 := h'.next_end
      simp [off_zero] at h2
      rw [h2] at h1
      have := wid_pos r
      simp at h1; omega
    | cons r' rs' =>
      have h2 := h'.next_at (k := 0) (by simp)
      rw [off_zero, List.drop_zero, h1] at h2
      simp only [List.getElem_cons_zero, Prod.mk.injEq] at h2
      obtain ⟨rfl, _⟩ := h2
      have e := h.eq.symm.trans h'.eq
      rw [encs_cons, encs_cons, List.append_assoc, List.append_assoc] at e
      have e2 := List.append_cancel_left e
      obtain ⟨g1, g2⟩ := ih (s := encs rs ++ rest) ⟨fun x hx => h.all x (List.mem_cons_of_mem _ hx), rfl, h.bad⟩ ⟨fun x hx => h'.all x (List.mem_cons_of_mem _ hx), e2, h'.bad⟩
      exact ⟨by rw [g1], g2⟩
theorem sp_encs {rs : List Int} (h : AllR rs) : Sp (encs rs) rs [] := ⟨h, by simp, rfl⟩
end U
end Go.Proofs.Ytgokmldngnmmhaa
