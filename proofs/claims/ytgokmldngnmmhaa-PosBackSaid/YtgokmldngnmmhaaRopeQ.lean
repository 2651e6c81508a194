/- Where runes begin in their bytes; how a text is cut into chunks. Plain. -/
import Derived.Test.YtgokmldngnmmhaaRopeP
namespace Go.Proofs.Ytgokmldngnmmhaa
/-- The byte there is none within a rune, or it is the end. -/
def redg (s : U.Bs) (a : Nat) : Bool := decide (a = s.length) || !(U.cont (s.getD a 0))
theorem by8_cont {n : Int} (h : 0 ≤ n) (h2 : n < 256) : U.cont (U.by8 n) = decide (128 ≤ n ∧ n < 192) := by
  have := U.by8_toNat h h2
  unfold U.cont
  congr 1
  apply propext
  omega
theorem enc_cont {r : Int} (h : U.right r = true) {i : Nat} (hi : i < U.wid r) (t : U.Bs) : U.cont ((U.enc r ++ t).getD i 0) = decide (0 < i) := by
  have hr := U.right_iff.1 h
  unfold U.wid at hi
  unfold U.enc
  split
  · rename_i h1
    rw [if_pos h1] at hi
    obtain rfl : i = 0 := by omega
    show U.cont (U.by8 r) = _
    rw [by8_cont (by omega) (by omega), decide_eq_false (by omega)]; rfl
  · rename_i h1
    rw [if_neg h1] at hi
    split
    · rename_i h2
      rw [if_pos h2] at hi
      obtain rfl | rfl : i = 0 ∨ i = 1 := by omega
      · show U.cont (U.by8 _) = _
        rw [by8_cont (by omega) (by omega), decide_eq_false (by omega)]; rfl
      · show U.cont (U.by8 _) = _
        rw [by8_cont (by omega) (by omega), decide_eq_true (by omega)]; rfl
    · rename_i h2
      rw [if_neg h2] at hi
      split
      · rename_i h3
        rw [if_pos h3] at hi
        obtain rfl | rfl | rfl : i = 0 ∨ i = 1 ∨ i = 2 := by omega
        · show U.cont (U.by8 _) = _
          rw [by8_cont (by omega) (by omega), decide_eq_false (by omega)]; rfl
        · show U.cont (U.by8 _) = _
          rw [by8_cont (by omega) (by omega), decide_eq_true (by omega)]; rfl
        · show U.cont (U.by8 _) = _
          rw [by8_cont (by omega) (by omega), decide_eq_true (by omega)]; rfl
      · rename_i h3
        rw [if_neg h3] at hi
        obtain rfl | rfl | rfl | rfl : i = 0 ∨ i = 1 ∨ i = 2 ∨ i = 3 := by omega
        · show U.cont (U.by8 _) = _
          rw [by8_cont (by omega) (by omega), decide_eq_false (by omega)]; rfl
        · show U.cont (U.by8 _) = _
          rw [by8_cont (by omega) (by omega), decide_eq_true (by omega)]; rfl
        · show U.cont (U.by8 _) = _
          rw [by8_cont (by omega) (by omega), decide_eq_true (by omega)]; rfl
        · show U.cont (U.by8 _) = _
          rw [by8_cont (by omega) (by omega), decide_eq_true (by omega)]; rfl
theorem bl_cons (r : Int) (rs : List Int) : bl (r :: rs) = U.wid r + bl rs := by unfold bl; rw [U.encs_cons, List.length_append, U.enc_length]
/-- A place is none within a rune where runes are cut. -/
theorem redg_iff {rs : List Int} (h : U.AllR rs) {a : Nat} (ha : a ≤ bl rs) : redg (U.encs rs) a = true ↔ ∃ p q, rs = p ++ q ∧ bl p = a := by
  induction rs generalizing a with
  | nil =>
    simp at ha
    subst ha
    exact ⟨fun _ => ⟨[], [], rfl, rfl⟩, fun _ => rfl⟩
  | cons r rs ih =>
    have hr := h r (by simp)
    have hw := U.wid_pos r
    have hrs : U.AllR rs := fun x hx => h x (by simp [hx])
    rw [bl_cons] at ha
    by_cases h0 : a < U.wid r
    · have e : redg (U.encs (r :: rs)) a = !decide (0 < a) := by
        unfold redg
        have hl : a ≠ (U.encs (r :: rs)).length := by have := bl_cons r rs; unfold bl at this; omega
        rw [decide_eq_false hl, U.encs_cons, enc_cont hr h0]; simp
      rw [e]
      constructor
      · intro hh
        have : a = 0 := by simpa using hh
        exact ⟨[], r :: rs, rfl, this.symm⟩
      · rintro ⟨p, q, hp, hb⟩
        cases p with
        | nil => simp at hb; simp [← hb]
        | cons y p =>
          simp only [List.cons_append, List.cons.injEq] at hp
          rw [bl_cons, ← hp.1] at hb
          omega
    · have e : redg (U.encs (r :: rs)) a = redg (U.encs rs) (a - U.wid r) := by
        unfold redg
        rw [U.encs_cons, List.length_append, U.enc_length]
        have e1 : (U.enc r ++ U.encs rs).getD a 0 = (U.encs rs).getD (a - U.wid r) 0 := by
          rw [List.getD_eq_getElem?_getD, List.getD_eq_getElem?_getD, List.getElem?_append_right (by rw [U.enc_length]; omega), U.enc_length]
        rw [e1]
        congr 1
        rw [decide_eq_decide]
        omega
      rw [e, ih hrs (by omega)]
      constructor
      · rintro ⟨p, q, rfl, hb⟩
        exact ⟨r :: p, q, rfl, by rw [bl_cons]; omega⟩
      · rintro ⟨p, q, hp, hb⟩
        cases p with
        | nil => simp at hb; omega
        | cons y p =>
          simp only [List.cons_append, List.cons.injEq] at hp
          obtain ⟨rfl, rfl⟩ := hp
          rw [bl_cons] at hb
          exact ⟨p, q, rfl, by omega⟩
/-- As much of runes as so many bytes hold. -/
def fill : List Int → Nat → List Int
  | [], _ => []
  | r :: rs, k => if U.wid r ≤ k then r :: fill rs (k - U.wid r) else []
theorem fill_pre (rs : List Int) (k : Nat) : ∃ q, rs = fill rs k ++ q := by
  induction rs generalizing k with
  | nil => exact ⟨[], rfl⟩
  | cons r rs ih =>
    unfold fill
    split
    · obtain ⟨q, e⟩ := ih (k - U.wid r)
      exact ⟨q, by rw [List.cons_append, ← e]⟩
    · exact ⟨r :: rs, rfl⟩
theorem fill_le (rs : List Int) (k : Nat) : bl (fill rs k) ≤ k := by
  induction rs generalizing k with
  | nil => simp [fill]
  | cons r rs ih =>
    unfold fill
    split
    · rw [bl_cons]; have := ih (k - U.wid r); omega
    · simp
/-- .. and no more of it. -/
theorem fill_max {rs p q : List Int} {k : Nat} (h : rs = p ++ q) (hk : bl p ≤ k) : bl p ≤ bl (fill rs k) := by
  induction rs generalizing p k with
  | nil =>
    obtain ⟨rfl, rfl⟩ := List.append_eq_nil_iff.1 h.symm
    simp
  | cons r rs ih =>
    cases p with
    | nil => simp
    | cons y p =>
      simp only [List.cons_append, List.cons.injEq] at h
      obtain ⟨rfl, h2⟩ := h
      rw [bl_cons] at hk
      unfold fill
      rw [if_pos (by omega), bl_cons, bl_cons]
      have := ih h2 (k := k - U.wid r) (by omega)
      omega
theorem fill_ne {rs : List Int} {k : Nat} (h : rs ≠ []) (hk : 4 ≤ k) : fill rs k ≠ [] := by
  cases rs with
  | nil => exact absurd rfl h
  | cons r rs =>
    unfold fill
    rw [if_pos (by have := U.wid_le r; omega)]
    simp
theorem fill_drop (rs : List Int) (k : Nat) : rs = fill rs k ++ rs.drop (fill rs k).length := by
  obtain ⟨q, e⟩ := fill_pre rs k
  have : rs.drop (fill rs k).length = q := by
    conv => lhs; rw [e]
    have : fill (fill rs k ++ q) k = fill rs k := by rw [← e]
    rw [this, List.drop_left]
  rw [this]; exact e
/-- The chunks of a text. -/
def cutR (rs : List Int) : List (List Int) :=
  if _h : 32 < bl rs then fill rs 32 :: cutR (rs.drop (fill rs 32).length) else if rs = [] then [] else [rs]
termination_by rs.length
decreasing_by
  have hne : rs ≠ [] := by rintro rfl; simp at _h
  have := List.length_pos_iff.2 (fill_ne hne (k := 32) (by omega))
  have := List.length_pos_iff.2 hne
  rw [List.length_drop]; omega
theorem cutR_flatten (rs : List Int) : (cutR rs).flatten = rs := by
  generalize hn : rs.length = n
  induction n using Nat.strongRecOn generalizing rs with
  | _ n ih =>
    unfold cutR
    split
    · rename_i h
      have hne : rs ≠ [] := by rintro rfl; simp at h
      have := List.length_pos_iff.2 (fill_ne hne (k := 32) (by omega))
      have := List.length_pos_iff.2 hne
      rw [List.flatten_cons, ih (rs.drop (fill rs 32).length).length (by rw [List.length_drop]; omega) _ rfl, ← fill_drop]
    · split
      · rename_i h; rw [h]; rfl
      · simp
theorem cutR_mem {rs c : List Int} (h : c ∈ cutR rs) : c ≠ [] ∧ bl c ≤ 32 := by
  generalize hn : rs.length = n
  induction n using Nat.strongRecOn generalizing rs with
  | _ n ih =>
    unfold cutR at h
    split at h
    · rename_i h1
      have hne : rs ≠ [] := by rintro rfl; simp at h1
      have hf := fill_ne hne (k := 32) (by omega)
      have := List.length_pos_iff.2 hf
      have := List.length_pos_iff.2 hne
      rcases List.mem_cons.1 h with rfl | h
      · exact ⟨hf, fill_le _ _⟩
      · exact ih (rs.drop (fill rs 32).length).length (by rw [List.length_drop]; omega) h rfl
    · split at h
      · simp at h
      · rename_i h1 h2
        obtain rfl := List.mem_singleton.1 h
        exact ⟨h2, by omega⟩
theorem cutR_ne (rs : List Int) : Ne (cutR rs) := fun _ h => (cutR_mem h).1
end Go.Proofs.Ytgokmldngnmmhaa
