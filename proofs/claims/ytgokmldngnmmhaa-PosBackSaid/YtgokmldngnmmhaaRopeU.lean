/- Places in runes, by a unit, and by lines. Plain. -/
import Derived.Test.YtgokmldngnmmhaaRopeM
namespace Go.Proofs.Ytgokmldngnmmhaa
theorem of_add (x y : Cn) (u : Int) : (x.add y).of u = x.of u + y.of u := by
  unfold Cn.of Cn.add
  repeat' split
  all_goals simp
theorem of_zero (u : Int) : Cn.zero.of u = 0 := by
  unfold Cn.of Cn.zero
  repeat' split
  all_goals rfl
theorem cnt_nil : cnt [] = Cn.zero := rfl
theorem cnt_one (r : Int) : cnt [r] = oneC r (U.wid r) := by
  have := cnt_snoc [] r
  simp only [List.nil_append] at this
  rw [this, cnt_nil]
  unfold Cn.add Cn.zero
  refine cn_ext ?_ ?_ ?_ ?_ <;> simp
theorem of_one (r : Int) {u : Int} (hu : 1 ≤ u ∧ u ≤ 3) : 1 ≤ (oneC r (U.wid r)).of u := by
  have := U.wid_pos r
  obtain rfl | rfl | rfl : u = 1 ∨ u = 2 ∨ u = 3 := by omega
  all_goals simp only [Cn.of, oneC]
  · simp; omega
  · simp; split <;> omega
  · simp
theorem of_len (rs : List Int) {u : Int} (hu : 1 ≤ u ∧ u ≤ 3) : (rs.length : Int) ≤ (cnt rs).of u := by
  induction rs with
  | nil => rw [cnt_nil, of_zero]; simp
  | cons r rs ih =>
    have e : r :: rs = [r] ++ rs := rfl
    rw [e, cnt_append, of_add, cnt_one]
    have := of_one r hu
    simp; omega
theorem of_nn (rs : List Int) (u : Int) : 0 ≤ (cnt rs).of u := by
  obtain ⟨⟨b0, b1, h0, h1, r0, r1, l0, l1⟩, -, -⟩ := cnt_in rs
  unfold Cn.of
  repeat' split
  all_goals omega
theorem l_nn (rs : List Int) : 0 ≤ (cnt rs).l := by
  obtain ⟨⟨b0, b1, h0, h1, r0, r1, l0, l1⟩, -, -⟩ := cnt_in rs
  exact l0
theorem cnt_app_of (a b : List Int) (u : Int) : (cnt (a ++ b)).of u = (cnt a).of u + (cnt b).of u := by rw [cnt_append, of_add]
theorem cnt_app_l (a b : List Int) : (cnt (a ++ b)).l = (cnt a).l + (cnt b).l := by rw [cnt_append]; rfl
theorem cnt_one_l (r : Int) : (cnt [r]).l = if r = 10 then 1 else 0 := by rw [cnt_one]; rfl
/-- A place, by a unit, of runes. -/
def Pl (u at_ : Int) (R : List Int) (c : Cn) : Prop := ∃ p q, R = p ++ q ∧ (cnt p).of u = at_ ∧ c = cnt p
/-- Two parts ahead, by a unit in order: the one begins the other. -/
theorem pre_le {p q p' q' : List Int} (h : p ++ q = p' ++ q') : (∃ d, p' = p ++ d ∧ q = d ++ q') ∨ (∃ d, p = p' ++ d ∧ q' = d ++ q) := by
  rcases List.append_eq_append_iff.1 h with ⟨c, h1, h2⟩ | ⟨c, h1, h2⟩
  · exact .inl ⟨c, h1, h2⟩
  · exact .inr ⟨c, h1, h2⟩
theorem pre_unique {p q p' q' : List Int} {u : Int} (hu : 1 ≤ u ∧ u ≤ 3) (h : p ++ q = p' ++ q') (e : (cnt p).of u = (cnt p').of u) : p = p' ∧ q = q' := by
  rcases pre_le h with ⟨d, h1, h2⟩ | ⟨d, h1, h2⟩
  · rw [h1, cnt_app_of] at e
    have := of_len d hu
    have : d = [] := List.eq_nil_of_length_eq_zero (by omega)
    subst this
    simp at h1 h2; exact ⟨h1.symm, h2⟩
  · rw [h1, cnt_app_of] at e
    have := of_len d hu
    have : d = [] := List.eq_nil_of_length_eq_zero (by omega)
    subst this
    simp at h1 h2; exact ⟨h1, h2.symm⟩
theorem Pl.unique {u at_ : Int} {R : List Int} {c c' : Cn} (hu : 1 ≤ u ∧ u ≤ 3) (h : Pl u at_ R c) (h' : Pl u at_ R c') : c = c' := by
  obtain ⟨p, q, e1, e2, rfl⟩ := h
  obtain ⟨p', q', e1', e2', rfl⟩ := h'
  rw [(pre_unique hu (e1.symm.trans e1') (e2.trans e2'.symm)).1]
theorem Pl.range {u at_ : Int} {R : List Int} {c : Cn} (h : Pl u at_ R c) : 0 ≤ at_ ∧ at_ ≤ (cnt R).of u := by
  obtain ⟨p, q, rfl, rfl, rfl⟩ := h
  rw [cnt_app_of]
  have := of_nn p u
  have := of_nn q u
  omega
/-- Within a rune there is no place. -/
theorem no_pl {p q : List Int} {r u at_ : Int} {c : Cn} (_hu : 1 ≤ u ∧ u ≤ 3) (h1 : (cnt p).of u < at_) (h2 : at_ < (cnt (p ++ [r])).of u) : ¬ Pl u at_ (p ++ r :: q) c := by
  rintro ⟨p', q', e1, e2, -⟩
  have e : p ++ r :: q = (p ++ [r]) ++ q := by simp
  rcases pre_le e1 with ⟨d, h3, h4⟩ | ⟨d, h3, h4⟩
  · cases d with
    | nil => simp at h3; subst h3; omega
    | cons y d =>
      simp only [List.cons_append, List.cons.injEq] at h4
      obtain ⟨rfl, h5⟩ := h4
      have : p' = (p ++ [r]) ++ d := by rw [h3]; simp
      rw [this, cnt_app_of] at e2
      have := of_nn d u
      omega
  · rw [h3, cnt_app_of] at h1
    have := of_nn d u
    omega
/-- Where a line begins. -/
def Ln (n : Int) (R : List Int) (c : Cn) : Prop := ∃ p q, R = p ++ q ∧ (cnt p).l = n ∧ c = cnt p ∧ (p = [] ∨ ∃ p', p = p' ++ [10])
theorem Ln.unique {n : Int} {R : List Int} {c c' : Cn} (h : Ln n R c) (h' : Ln n R c') : c = c' := by
  obtain ⟨p, q, e1, e2, rfl, e3⟩ := h
  obtain ⟨p', q', e1', e2', rfl, e3'⟩ := h'
  suffices hh : p = p' by rw [hh]
  have key : ∀ (p d : List Int), (cnt (p ++ d)).l = (cnt p).l → (p ++ d = [] ∨ ∃ p', p ++ d = p' ++ [10]) → d = [] := by
    intro p d h1 h2
    rcases List.eq_nil_or_concat d with rfl | ⟨d', y, rfl⟩
    · rfl
    · rcases h2 with h2 | ⟨p', h2⟩
      · simp at h2
      · exfalso
        have e : p ++ (d' ++ [y]) = (p ++ d') ++ [y] := by simp
        simp only [List.concat_eq_append] at h1 h2
        rw [e] at h2
        have hy := (List.append_inj' h2 rfl).2
        simp at hy
        subst hy
        rw [cnt_app_l, cnt_app_l, cnt_one_l] at h1
        have := l_nn d'
        simp at h1
        omega
  rcases pre_le (e1.symm.trans e1') with ⟨d, h1, h2⟩ | ⟨d, h1, h2⟩
  · have := key p d (by rw [← h1, e2, e2']) (by rw [← h1]; exact e3')
    subst this; simpa using h1.symm
  · have := key p' d (by rw [← h1, e2, e2']) (by rw [← h1]; exact e3)
    subst this; simpa using h1
end Go.Proofs.Ytgokmldngnmmhaa
