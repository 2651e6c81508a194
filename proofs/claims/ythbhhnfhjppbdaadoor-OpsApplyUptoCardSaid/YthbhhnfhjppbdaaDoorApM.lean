/- Apply and Invert in plain Lean. -/
import Derived.Test.YthbhhnfhjppbdaaDoorOpXT
import Derived.Test.YthbhhnfhjppbdaaDoorRefF
namespace Go.Proofs.YthbhhnfhjppbdaaDoor
open Go.RowKit
/-- A rune begins at a place, or the text ends there. -/
def edg (s : U.Bs) (a : Nat) : Bool := decide (a = s.length) || !(U.cont (U.at_ s a))
theorem edg_end (s : U.Bs) : edg s s.length = true := by simp [edg]
def PT.ext (p : PT) : Nat := p.keep.toNat + p.drop.toNat
def wasN : List PT → Nat
  | [] => 0
  | p :: l => p.ext + wasN l
theorem wasN_append (a b : List PT) : wasN (a ++ b) = wasN a + wasN b := by
  induction a with
  | nil => simp [wasN]
  | cons p a ih => rw [List.cons_append, wasN, wasN, ih]; omega
theorem wasN_was {l : List PT} (h : ∀ p ∈ l, p.arg) : (wasN l : Int) = was l := by
  induction l with
  | nil => rfl
  | cons p l ih =>
    obtain ⟨_, h2, h3⟩ := h p (by simp)
    have := ih (fun q hq => h q (by simp [hq]))
    rw [wasN, was, PT.ext]; omega
/-- What comes, from a place on. -/
def aout (s : U.Bs) : Nat → List PT → U.Bs
  | _, [] => []
  | a, p :: l => (s.drop a).take p.keep.toNat ++ p.put ++ aout s (a + p.ext) l
/-- Every part begins and ends at runes' ends. -/
def aok (s : U.Bs) : Nat → List PT → Bool
  | _, [] => true
  | a, p :: l => (edg s a && edg s (a + p.ext)) && aok s (a + p.ext) l
theorem aout_snoc (s : U.Bs) (a : Nat) (l : List PT) (p : PT) : aout s a (l ++ [p]) = aout s a l ++ ((s.drop (a + wasN l)).take p.keep.toNat ++ p.put) := by
  induction l generalizing a with
  | nil => simp [aout, wasN]
  | cons q l ih =>
    rw [List.cons_append, aout, aout, ih, wasN, Nat.add_assoc]
    simp only [List.append_assoc]
theorem aok_snoc (s : U.Bs) (a : Nat) (l : List PT) (p : PT) : aok s a (l ++ [p]) = (aok s a l && (edg s (a + wasN l) && edg s (a + wasN l + p.ext))) := by
  induction l generalizing a with
  | nil => simp [aok, wasN]
  | cons q l ih => rw [List.cons_append, aok, aok, ih, wasN, ← Nat.add_assoc]; simp only [Bool.and_assoc]
theorem aok_take {s : U.Bs} {a : Nat} {l : List PT} (h : aok s a l = true) (k : Nat) : aok s a (l.take k) = true := by
  induction l generalizing a k with
  | nil => simp [aok]
  | cons q l ih =>
    rw [aok, Bool.and_eq_true] at h
    cases k with
    | zero => simp [aok]
    | succ k => rw [List.take_succ_cons, aok, h.1, ih h.2]; rfl
theorem aok_not {s : U.Bs} {l : List PT} {k : Nat} (hk : k < l.length) (h : (edg s (wasN (l.take k)) && edg s (wasN (l.take k) + l[k].ext)) = false) : aok s 0 l = false := by
  by_cases e : aok s 0 l = true
  · have := aok_take e (k + 1)
    rw [List.take_succ_eq_append_getElem hk, aok_snoc, Nat.zero_add, h, Bool.and_false] at this
    exact absurd this (by decide)
  · simpa using e
theorem aout_len (s : U.Bs) (a : Nat) (l : List PT) : (aout s a l).length ≤ wasN l + plen l := by
  induction l generalizing a with
  | nil => simp [aout]
  | cons p l ih =>
    have := ih (a + p.ext)
    rw [aout, wasN, plen, List.length_append, List.length_append, List.length_take]
    unfold PT.ext at *
    omega
/-- What Apply tells. -/
noncomputable def apc (l : List PT) (s : U.Bs) : Int := if chk l s.length = 0 then (if aok s 0 l = true then 0 else 10) else chk l s.length
noncomputable def apr (l : List PT) (s : U.Bs) : U.Bs := if apc l s = 0 then aout s 0 l else []
/-- What takes a part back. -/
def invp (s : U.Bs) (a : Nat) (p : PT) : PT := if p.put ≠ [] then ⟨0, p.put.length, []⟩ else if 0 < p.drop then ⟨0, 0, (s.drop a).take p.drop.toNat⟩ else p
def inv (s : U.Bs) : Nat → List PT → List PT
  | _, [] => []
  | a, p :: l => invp s a p :: inv s (a + p.ext) l
theorem inv_snoc (s : U.Bs) (a : Nat) (l : List PT) (p : PT) : inv s a (l ++ [p]) = inv s a l ++ [invp s (a + wasN l) p] := by
  induction l generalizing a with
  | nil => simp [inv, wasN]
  | cons q l ih => rw [List.cons_append, inv, inv, ih, wasN, Nat.add_assoc]; rfl
theorem inv_len (s : U.Bs) (a : Nat) (l : List PT) : (inv s a l).length = l.length := by
  induction l generalizing a with
  | nil => rfl
  | cons p l ih => rw [inv, List.length_cons, ih, List.length_cons]
theorem invp_arg {s : U.Bs} {a : Nat} {p : PT} (h : p.arg) (hb : a + p.ext ≤ s.length) : (invp s a p).arg := by
  unfold invp
  rcases h.cases with ⟨b, hb', rfl⟩ | ⟨n, hn, rfl⟩ | ⟨n, hn, rfl⟩
  · rw [if_pos hb']
    exact PT.arg_drop (by have := List.length_pos_iff.2 hb'; dsimp only; omega)
  · rw [if_neg (by simp), if_pos (by dsimp only; omega)]
    refine PT.arg_put (fun e => ?_)
    have := congrArg List.length e
    unfold PT.ext at hb
    rw [List.length_take, List.length_drop] at this
    dsimp only [List.length_nil] at this hb
    omega
  · rw [if_neg (by simp), if_neg (by dsimp only; omega)]
    exact PT.arg_keep (by omega)
theorem inv_arg {s : U.Bs} {a : Nat} {l : List PT} (h : ∀ p ∈ l, p.arg) (hb : a + wasN l ≤ s.length) : ∀ p ∈ inv s a l, p.arg := by
  induction l generalizing a with
  | nil => intro p hp; simp [inv] at hp
  | cons q l ih =>
    rw [wasN] at hb
    intro p hp
    rw [inv] at hp
    rcases List.mem_cons.1 hp with rfl | hp
    · exact invp_arg (h q (by simp)) (by omega)
    · exact ih (fun r hr => h r (by simp [hr])) (by omega) p hp
theorem inv_meas {s : U.Bs} {a : Nat} {l : List PT} (h : ∀ p ∈ l, p.arg) : was (inv s a l) ≤ was l + plen l ∧ (plen (inv s a l) : Int) ≤ was l := by
  induction l generalizing a with
  | nil => simp [inv, was, plen]
  | cons p l ih =>
    obtain ⟨i1, i2⟩ := ih (a := a + p.ext) (fun q hq => h q (by simp [hq]))
    rw [inv, was, was, plen, plen]
    have hp := h p (by simp)
    unfold invp
    rcases hp.cases with ⟨b, hb', rfl⟩ | ⟨n, hn, rfl⟩ | ⟨n, hn, rfl⟩
    · rw [if_pos hb']
      dsimp only [List.length_nil]
      omega
    · rw [if_neg (by simp), if_pos (by dsimp only; omega)]
      dsimp only [List.length_nil]
      rw [List.length_take, Int.toNat_natCast]
      omega
    · rw [if_neg (by simp), if_neg (by dsimp only; omega)]
      dsimp only [List.length_nil]
      omega
theorem e2_sum {l : List PT} {n : Int} (h : e2 n l = 0) : was l = n := by
  induction l generalizing n with
  | nil =>
    rw [e2] at h
    by_cases h0 : n = 0
    · rw [was, h0]
    · rw [if_neg h0] at h; exact absurd h (by decide)
  | cons p l ih =>
    rw [e2] at h
    by_cases hc : n < p.keep ∨ n < p.drop
    · rw [if_pos hc] at h; exact absurd h (by decide)
    · rw [if_neg hc] at h
      have := ih h
      rw [was]; omega
theorem chk_sum {l : List PT} {n : Int} (h : chk l n = 0) : was l = n := by
  unfold chk at h
  split at h
  · exact e2_sum h
  · rename_i h1; exact absurd h h1
/-- What stands behind all parts is the text's end. -/
theorem chk_was {l : List PT} {n : Nat} (h : chk l n = 0) : (∀ p ∈ l, p.Good) ∧ wasN l = n := by
  have hg := chk_good h
  refine ⟨hg, ?_⟩
  have ha : ∀ p ∈ l, p.arg := fun p hp => (hg p hp).1
  have := wasN_was ha
  have := chk_sum h
  omega
end Go.Proofs.YthbhhnfhjppbdaaDoor
