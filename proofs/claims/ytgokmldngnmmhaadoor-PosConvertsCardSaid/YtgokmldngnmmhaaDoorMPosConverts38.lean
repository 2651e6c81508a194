/- An operation in other units, in plain Lean. -/
import Derived.Test.YtgokmldngnmmhaaDoorMPosConverts34
import Derived.Test.YtgokmldngnmmhaaDoorMPosConverts15
namespace Go.Proofs.YtgokmldngnmmhaaDoor
open Go.RowKit
/-- What Ahead tells, as a function. -/
noncomputable def ah (u at_ : Int) (R : List Int) : Cn × Int := by
  classical
  exact if h : ∃ x : Cn × Int, AheadR u at_ R x.1 (erV x.2) then Classical.choose h else (Cn.zero, 0)
theorem ah_eq {u at_ : Int} {R : List Int} {c : Cn} {k : Int} (h : AheadR u at_ R c (erV k)) : ah u at_ R = (c, k) := by
  have hx : ∃ x : Cn × Int, AheadR u at_ R x.1 (erV x.2) := ⟨(c, k), h⟩
  have h2 := Classical.choose_spec hx
  obtain ⟨e1, e2⟩ := h2.unique h
  unfold ah
  rw [dif_pos hx]
  exact Prod.ext e1 (erV_inj e2)
/-- A part, turned: its own number by the other unit. -/
def tnP (p : PT) (x : Int) : PT := if 0 < p.keep then ⟨x, p.drop, p.put⟩ else if 0 < p.drop then ⟨p.keep, x, p.put⟩ else p
/-- An operation, turned, from a place on; and what is told. -/
noncomputable def tnF (R : List Int) (u tu : Int) : Cn → Int → List PT → List PT × Int
  | _, _, [] => ([], 0)
  | c, a, p :: l => if (ah u (a + (p.keep + p.drop)) R).2 = 0
    then (tnP p ((ah u (a + (p.keep + p.drop)) R).1.of tu - c.of tu) :: (tnF R u tu (ah u (a + (p.keep + p.drop)) R).1 (a + (p.keep + p.drop)) l).1, (tnF R u tu (ah u (a + (p.keep + p.drop)) R).1 (a + (p.keep + p.drop)) l).2)
    else ([], (ah u (a + (p.keep + p.drop)) R).2)
theorem tnF_stop {R : List Int} {u tu a k : Int} {c c' : Cn} {p : PT} {l : List PT} (h : AheadR u (a + (p.keep + p.drop)) R c' (erV k)) (hk : k ≠ 0) : tnF R u tu c a (p :: l) = ([], k) := by
  rw [tnF, ah_eq h, if_neg hk]
theorem tnF_step {R : List Int} {u tu a : Int} {c c' : Cn} {p : PT} {l : List PT} (h : AheadR u (a + (p.keep + p.drop)) R c' (erV 0)) :
    tnF R u tu c a (p :: l) = (tnP p (c'.of tu - c.of tu) :: (tnF R u tu c' (a + (p.keep + p.drop)) l).1, (tnF R u tu c' (a + (p.keep + p.drop)) l).2) := by
  rw [tnF, ah_eq h, if_pos rfl]
theorem tnP_put (b : U.Bs) (x : Int) : tnP ⟨0, 0, b⟩ x = ⟨0, 0, b⟩ := rfl
theorem tnP_drop {n : Nat} (h : 0 < n) (x : Int) : tnP ⟨0, n, []⟩ x = ⟨0, x, []⟩ := by
  have h1 : (0 : Int) < n := by omega
  unfold tnP
  rw [if_neg (by simp), if_pos h1]
theorem tnP_keep {n : Nat} (h : 0 < n) (x : Int) : tnP ⟨n, 0, []⟩ x = ⟨x, 0, []⟩ := by
  have h1 : (0 : Int) < n := by omega
  unfold tnP
  rw [if_pos h1]
theorem e1_all {l : List PT} (h : e1 l = 0) : ∀ p ∈ l, p.Good := by
  induction l with
  | nil => intro p hp; simp at hp
  | cons p l ih =>
    unfold e1 at h
    split at h
    · exact absurd h (by decide)
    · rename_i h1
      split at h
      · exact absurd h (by decide)
      · rename_i h2
        intro q hq
        rcases List.mem_cons.1 hq with rfl | hq
        · exact ⟨Classical.not_not.1 h1, Classical.not_not.1 h2⟩
        · exact ih h q hq
theorem e2_was {l : List PT} {n : Int} (h : e2 n l = 0) : was l = n := by
  induction l generalizing n with
  | nil => unfold e2 at h; rw [was]; split at h <;> omega
  | cons p l ih =>
    unfold e2 at h
    split at h
    · omega
    · rw [was, ih h]; omega
theorem chk_zero {l : List PT} {n : Int} (h : chk l n = 0) : (∀ p ∈ l, p.Good) ∧ was l = n := by
  unfold chk at h
  split at h
  · rename_i h1; exact ⟨e1_all h1, e2_was h⟩
  · rename_i h1; exact absurd h h1
theorem tn_nn {l : List PT} (h : ∀ p ∈ l, p.Good) : 0 ≤ was l := by
  induction l with
  | nil => exact Int.le_refl _
  | cons p l ih =>
    have := (h p (by simp)).1
    have h2 := ih fun q hq => h q (List.mem_cons_of_mem _ hq)
    have h3 := this.2
    rw [was]; omega
/-- Where the loop of a turn is. -/
structure TnI (R : List Int) (u tu : Int) (l : List PT) (m : Int) (k : Nat) (c : Cn) (a : Int) (o : List PT) : Prop where
  k_le : k ≤ l.length
  out : (tnF R u tu Cn.zero 0 l).1 = o ++ (tnF R u tu c a (l.drop k)).1
  err : (tnF R u tu Cn.zero 0 l).2 = (tnF R u tu c a (l.drop k)).2
  len : o.length = k
  a0 : 0 ≤ a
  tot : a + was (l.drop k) = m
  c0 : 0 ≤ c.of tu
  c1 : c.of tu ≤ 1000000
theorem tn_zero (u : Int) : Cn.zero.of u = 0 := by unfold Cn.of; (repeat' split) <;> rfl
theorem TnI.start {R : List Int} {u tu m : Int} {l : List PT} (h : was l = m) : TnI R u tu l m 0 Cn.zero 0 [] :=
  ⟨Nat.zero_le _, rfl, rfl, rfl, Int.le_refl _, by rw [List.drop_zero]; omega, by rw [tn_zero]; exact Int.le_refl _, by rw [tn_zero]; decide⟩
theorem tn_drop {l : List PT} {k : Nat} (hk : k < l.length) : l.drop k = l[k] :: l.drop (k + 1) := List.drop_eq_getElem_cons hk
theorem TnI.bound {R : List Int} {u tu m : Int} {l : List PT} {k : Nat} {c : Cn} {a : Int} {o : List PT} (h : TnI R u tu l m k c a o) (hg : ∀ p ∈ l, p.Good) (hk : k < l.length) : 0 ≤ a + (l[k].keep + l[k].drop) ∧ a + (l[k].keep + l[k].drop) ≤ m ∧ a ≤ m := by
  have h1 := h.tot
  have h2 := tn_nn (l := l.drop (k + 1)) fun p hp => hg p (List.mem_of_mem_drop hp)
  have h3 := (hg _ (List.getElem_mem hk)).1.2
  have h4 := h.a0
  rw [tn_drop hk, was] at h1
  omega
theorem TnI.stop {R : List Int} {u tu m : Int} {l : List PT} {k : Nat} {c c' : Cn} {a e : Int} {o : List PT} (h : TnI R u tu l m k c a o) (hk : k < l.length) (hA : AheadR u (a + (l[k].keep + l[k].drop)) R c' (erV e)) (he : e ≠ 0) : (tnF R u tu Cn.zero 0 l).2 = e := by
  rw [h.err, tn_drop hk, tnF_stop hA he]
theorem AheadR.nil {u at_ : Int} {R : List Int} {c : Cn} (h : AheadR u at_ R c (erV 0)) : Pl u at_ R c := by
  rcases ahead_cases h with ⟨-, hp, -⟩ | ⟨k, e, -, hk, -⟩
  · exact hp
  · exact absurd e (by intro e; cases e)
theorem TnI.step {R : List Int} {u tu m : Int} {l : List PT} {k : Nat} {c c' : Cn} {a : Int} {o : List PT} (h : TnI R u tu l m k c a o) (hg : ∀ p ∈ l, p.Good) (hk : k < l.length) (hR : R.length ≤ 100000) (hA : AheadR u (a + (l[k].keep + l[k].drop)) R c' (erV 0)) :
    TnI R u tu l m (k + 1) c' (a + (l[k].keep + l[k].drop)) (o ++ [tnP l[k] (c'.of tu - c.of tu)]) := by
  have hb := h.bound hg hk
  obtain ⟨p, q, e1, -, rfl⟩ := hA.nil
  have hpl : p.length ≤ 100000 := by have := congrArg List.length e1; rw [List.length_append] at this; omega
  refine ⟨by omega, ?_, ?_, by rw [List.length_append, h.len]; rfl, hb.1, ?_, of_nn _ _, ?_⟩
  · rw [h.out, tn_drop hk, tnF_step hA, List.append_assoc]; rfl
  · rw [h.err, tn_drop hk, tnF_step hA]
  · have := h.tot; rw [tn_drop hk, was] at this; omega
  · have := of_le (rs := p) (Nat.le_refl _) tu; omega
theorem TnI.finish {R : List Int} {u tu m : Int} {l : List PT} {k : Nat} {c : Cn} {a : Int} {o : List PT} (h : TnI R u tu l m k c a o) (hk : k = l.length) : (tnF R u tu Cn.zero 0 l).1 = o ∧ (tnF R u tu Cn.zero 0 l).2 = 0 := by
  have h1 := h.out
  have h2 := h.err
  rw [hk, List.drop_length, tnF] at h1 h2
  exact ⟨by rw [h1, List.append_nil], h2⟩
/-- What a turn tells. -/
def TnR (R : List Int) (l : List PT) (u tu : Int) (o : List PT) (k : Int) : Prop :=
  (¬ ((1 ≤ u ∧ u ≤ 3) ∧ (1 ≤ tu ∧ tu ≤ 3)) → o = [] ∧ k = 1) ∧
  (((1 ≤ u ∧ u ≤ 3) ∧ (1 ≤ tu ∧ tu ≤ 3)) → chk l ((cnt R).of u) ≠ 0 → o = [] ∧ k = chk l ((cnt R).of u)) ∧
  (((1 ≤ u ∧ u ≤ 3) ∧ (1 ≤ tu ∧ tu ≤ 3)) → chk l ((cnt R).of u) = 0 → k = (tnF R u tu Cn.zero 0 l).2 ∧ o = if k = 0 then (tnF R u tu Cn.zero 0 l).1 else [])
theorem TnR.unique {R : List Int} {l o o' : List PT} {u tu k k' : Int} (h : TnR R l u tu o k) (h' : TnR R l u tu o' k') : o = o' ∧ k = k' := by
  obtain ⟨h1, h2, h3⟩ := h
  obtain ⟨g1, g2, g3⟩ := h'
  by_cases hu : (1 ≤ u ∧ u ≤ 3) ∧ (1 ≤ tu ∧ tu ≤ 3)
  · by_cases hc : chk l ((cnt R).of u) = 0
    · obtain ⟨e1, e2⟩ := h3 hu hc
      obtain ⟨f1, f2⟩ := g3 hu hc
      have e : k = k' := e1.trans f1.symm
      subst e
      exact ⟨e2.trans f2.symm, rfl⟩
    · exact ⟨(h2 hu hc).1.trans (g2 hu hc).1.symm, (h2 hu hc).2.trans (g2 hu hc).2.symm⟩
  · exact ⟨(h1 hu).1.trans (g1 hu).1.symm, (h1 hu).2.trans (g1 hu).2.symm⟩
end Go.Proofs.YtgokmldngnmmhaaDoor
