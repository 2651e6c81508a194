/- Tapes in plain Lean: one step of Transform and of Compose. -/
import Derived.Test.YthbhhnfhjppbdaaDoorTransM
import Derived.Test.YthbhhnfhjppbdaaDoorNormP
namespace Go.Proofs.YthbhhnfhjppbdaaDoor
theorem exp_drop (n : Nat) : (⟨0, n, []⟩ : PT).exp = List.replicate n PT.d1 := by
  unfold PT.exp
  rw [if_neg (by simp)]
  dsimp only
  by_cases h : 0 < (n : Int)
  · rw [if_pos h]; simp
  · rw [if_neg h]; obtain rfl : n = 0 := by omega
    rfl
theorem exp_keep (n : Nat) : (⟨n, 0, []⟩ : PT).exp = List.replicate n PT.k1 := by
  unfold PT.exp
  rw [if_neg (by simp)]
  dsimp only
  rw [if_neg (by decide)]; simp
/-- How much a part has. -/
def PT.size (p : PT) : Nat := p.exp.length
theorem size_put (b : U.Bs) : (⟨0, 0, b⟩ : PT).size = b.length := by rw [PT.size, exp_put]; simp
theorem size_drop (n : Nat) : (⟨0, n, []⟩ : PT).size = n := by rw [PT.size, exp_drop]; simp
theorem size_keep (n : Nat) : (⟨n, 0, []⟩ : PT).size = n := by rw [PT.size, exp_keep]; simp
theorem PT.arg.pos {p : PT} (h : p.arg) : 0 < p.size := by
  rcases h.cases with ⟨b, hb, rfl⟩ | ⟨n, hn, rfl⟩ | ⟨n, hn, rfl⟩
  · rw [size_put]; exact List.length_pos_iff.2 hb
  · rw [size_drop]; exact hn
  · rw [size_keep]; exact hn
/-- What is left of a part of which so much was taken. -/
def PT.left (p : PT) (n : Nat) : PT := if p.put ≠ [] then ⟨0, 0, p.put.drop n⟩ else if 0 < p.keep then ⟨p.keep - n, 0, []⟩ else ⟨0, p.drop - n, []⟩
theorem PT.left_exp {p : PT} (h : p.arg) {n : Nat} (hn : n ≤ p.size) : (p.left n).exp = p.exp.drop n := by
  rcases h.cases with ⟨b, hb, rfl⟩ | ⟨m, hm, rfl⟩ | ⟨m, hm, rfl⟩
  · simp only [PT.left, if_pos hb, ne_eq]; rw [exp_put, exp_put, List.map_drop]
  · rw [size_drop] at hn
    simp only [PT.left, ne_eq, not_true_eq_false, if_false, Int.lt_irrefl]
    rw [show ((m : Int) - n) = ((m - n : Nat) : Int) from by omega, exp_drop, exp_drop, List.drop_replicate]
  · rw [size_keep] at hn
    simp only [PT.left, ne_eq, not_true_eq_false, if_false]
    rw [if_pos (by omega), show ((m : Int) - n) = ((m - n : Nat) : Int) from by omega, exp_keep, exp_keep, List.drop_replicate]
theorem PT.left_arg {p : PT} (h : p.arg) {n : Nat} (hn : n < p.size) : (p.left n).arg := by
  rcases h.cases with ⟨b, hb, rfl⟩ | ⟨m, hm, rfl⟩ | ⟨m, hm, rfl⟩
  · rw [size_put] at hn
    simp only [PT.left, if_pos hb, ne_eq]
    exact PT.arg_put (fun e => by have := congrArg List.length e; simp at this; omega)
  · rw [size_drop] at hn
    simp only [PT.left, ne_eq, not_true_eq_false, if_false, Int.lt_irrefl]
    exact PT.arg_drop (by omega)
  · rw [size_keep] at hn
    simp only [PT.left, ne_eq, not_true_eq_false, if_false]
    rw [if_pos (by omega)]
    exact PT.arg_keep (by omega)
/-- A tape's place is one. -/
def Tok (l : List PT) (n : Nat) : Prop := (∀ p ∈ l, p.arg) ∧ match l with | [] => n = 0 | p :: _ => n ≤ p.size
/-- What a tape has yet, byte by byte. -/
def tape (l : List PT) (n : Nat) : List PT := (expand l).drop n
/-- What next gives: a part p that begins what there is yet; or none. -/
def Nx (u : List PT) (p : PT) (some : Bool) : Prop := (some = true ∧ p.arg ∧ ∃ r, u = p.exp ++ r) ∨ (some = false ∧ p = ⟨0, 0, []⟩ ∧ u = [])
theorem tape_skip {p : PT} {l : List PT} {n : Nat} (h : n = p.size) : tape (p :: l) n = tape l 0 := by
  unfold tape
  rw [expand_cons, h, PT.size, List.drop_left, List.drop_zero]
theorem tape_cons {p : PT} {l : List PT} {n : Nat} (h : n ≤ p.size) (ha : p.arg) : tape (p :: l) n = (p.left n).exp ++ expand l := by
  unfold tape
  rw [expand_cons, List.drop_append_of_le_length h, PT.left_exp ha h]
theorem tape_take {l : List PT} {n m : Nat} : tape l (n + m) = (tape l n).drop m := by unfold tape; rw [List.drop_drop]
theorem Nx.hput {u : List PT} {p : PT} {s : Bool} (h : Nx u p s) : hput u = decide (p.put ≠ []) := by
  rcases h with ⟨_, ha, r, rfl⟩ | ⟨_, rfl, rfl⟩
  · rcases ha.cases with ⟨b, hb, rfl⟩ | ⟨n, hn, rfl⟩ | ⟨n, hn, rfl⟩
    · rw [exp_put]
      match b, hb with
      | c :: b, _ => simp [Go.Proofs.YthbhhnfhjppbdaaDoor.hput, isPut_byte]
    · rw [exp_drop]
      obtain ⟨m, rfl⟩ : ∃ m, n = m + 1 := ⟨n - 1, by omega⟩
      simp [List.replicate_succ, Go.Proofs.YthbhhnfhjppbdaaDoor.hput, isPut_d1]
    · rw [exp_keep]
      obtain ⟨m, rfl⟩ : ∃ m, n = m + 1 := ⟨n - 1, by omega⟩
      simp [List.replicate_succ, Go.Proofs.YthbhhnfhjppbdaaDoor.hput, isPut_k1]
  · simp [Go.Proofs.YthbhhnfhjppbdaaDoor.hput]
theorem expand_snoc (l : List PT) (p : PT) : expand (l ++ [p]) = expand l ++ p.exp := by rw [expand_append]; simp [expand]
section
variable {first : Bool} {x y out : List PT} {p q : PT} {s t : Bool}
theorem tr_s1 (hx : Nx x p s) (hy : Nx y q t) (hp : p.put ≠ []) (h : first = true ∨ q.put = []) :
    s = true ∧ p.arg ∧ expand (out ++ [p]) ++ tr first (x.drop p.put.length) y = expand out ++ tr first x y ∧ uwas (x.drop p.put.length) = uwas x ∧ (x.drop p.put.length).length + p.put.length = x.length := by
  rcases hx with ⟨rfl, ha, r, rfl⟩ | ⟨_, rfl, rfl⟩
  · refine ⟨rfl, ha, ?_⟩
    rcases ha.cases with ⟨b, hb, rfl⟩ | ⟨n, hn, rfl⟩ | ⟨n, hn, rfl⟩
    · have e : (List.map PT.byte b ++ r).drop b.length = r := by
        have := List.drop_left (l₁ := List.map PT.byte b) (l₂ := r)
        rwa [List.length_map] at this
      rw [expand_snoc, exp_put]
      dsimp only
      rw [e, tr_put b r y (h.imp id fun hq => by rw [hy.hput, hq]; simp), List.append_assoc]
      refine ⟨rfl, ?_, by simp; omega⟩
      clear e hb hp ha
      induction b with
      | nil => rfl
      | cons c b ih => simp only [List.map_cons, List.cons_append, uwas, isPut_byte, if_true, ← ih]; omega
    · exact absurd rfl hp
    · exact absurd rfl hp
  · exact absurd rfl hp
theorem tr_s2 (hx : Nx x p s) (hy : Nx y q t) (hq : q.put ≠ []) (h : first = false ∨ p.put = []) :
    t = true ∧ (⟨q.put.length, 0, []⟩ : PT).arg ∧ expand (out ++ [⟨q.put.length, 0, []⟩]) ++ tr first x (y.drop q.put.length) = expand out ++ tr first x y ∧ uwas (y.drop q.put.length) = uwas y ∧ (y.drop q.put.length).length + q.put.length = y.length := by
  have hl : 0 < q.put.length := List.length_pos_iff.2 hq
  rcases hy with ⟨rfl, ha, r, rfl⟩ | ⟨_, rfl, rfl⟩
  · refine ⟨rfl, PT.arg_keep (by omega), ?_⟩
    rcases ha.cases with ⟨b, hb, rfl⟩ | ⟨n, hn, rfl⟩ | ⟨n, hn, rfl⟩
    · have e : (List.map PT.byte b ++ r).drop b.length = r := by
        have := List.drop_left (l₁ := List.map PT.byte b) (l₂ := r)
        rwa [List.length_map] at this
      rw [expand_snoc, exp_keep, exp_put]
      dsimp only
      rw [e, tr_keep b x r (h.imp id fun hq => by rw [hx.hput, hq]; simp), List.append_assoc]
      refine ⟨rfl, ?_, by simp; omega⟩
      clear e hb hq ha hl
      induction b with
      | nil => rfl
      | cons c b ih => simp only [List.map_cons, List.cons_append, uwas, isPut_byte, if_true, ← ih]; omega
    · exact absurd rfl hq
    · exact absurd rfl hq
  · exact absurd rfl hq
theorem uwas_append (a b : List PT) : uwas (a ++ b) = uwas a + uwas b := by
  induction a with
  | nil => simp [uwas]
  | cons p a ih => rw [List.cons_append, uwas, uwas, ih]; omega
theorem ucomes_append (a b : List PT) : ucomes (a ++ b) = ucomes a + ucomes b := by
  induction a with
  | nil => simp [ucomes]
  | cons p a ih => rw [List.cons_append, ucomes, ucomes, ih]; omega
theorem uwas_unit (n : Nat) (v : Bool) : uwas (List.replicate n (unit v)) = n := by
  induction n with
  | zero => rfl
  | succ n ih => rw [List.replicate_succ, uwas, if_neg (by simp [isPut_unit]), ih]; omega
/-- A part that puts nothing is so many units. -/
theorem Nx.noput (hx : Nx x p s) (hp : p.put = []) (hs : s = true) : ∃ (n : Nat) (v : Bool) (r : List PT), 0 < n ∧ p.keep + p.drop = n ∧ x = List.replicate n (unit v) ++ r ∧ (v = true ↔ ¬ 0 < p.keep) ∧ p = (if v = true then ⟨0, n, []⟩ else ⟨n, 0, []⟩) := by
  rcases hx with ⟨_, ha, r, rfl⟩ | ⟨h, _⟩
  · rcases ha.cases with ⟨b, hb, rfl⟩ | ⟨n, hn, rfl⟩ | ⟨n, hn, rfl⟩
    · exact absurd hp hb
    · exact ⟨n, true, r, hn, by simp, by rw [exp_drop]; rfl, by simp, by simp⟩
    · exact ⟨n, false, r, hn, by simp, by rw [exp_keep]; rfl, by simp; omega, by simp⟩
  · subst hs; exact absurd h (by simp)
theorem Nx.some_of (hx : Nx x p s) (h : 0 < x.length) : s = true := by
  rcases hx with ⟨h, _⟩ | ⟨_, _, rfl⟩
  · exact h
  · simp at h
/-- Where nobody puts, and something is left: both have something. -/
theorem tr_s3 (hx : Nx x p s) (hy : Nx y q t) (hp : p.put = []) (hq : q.put = []) (hw : uwas x = uwas y) (hs : s = true ∨ t = true) :
    ∃ n : Nat, 0 < n ∧ min (p.keep + p.drop) (q.keep + q.drop) = n ∧ n ≤ x.length ∧ n ≤ y.length ∧ uwas (x.drop n) = uwas (y.drop n) ∧
      (0 < q.keep → 0 < p.keep → expand (out ++ [⟨n, 0, []⟩]) ++ tr first (x.drop n) (y.drop n) = expand out ++ tr first x y) ∧
      (0 < q.keep → ¬ 0 < p.keep → expand (out ++ [⟨0, n, []⟩]) ++ tr first (x.drop n) (y.drop n) = expand out ++ tr first x y) ∧
      (¬ 0 < q.keep → expand out ++ tr first (x.drop n) (y.drop n) = expand out ++ tr first x y) := by
  have both : s = true ∧ t = true := by
    rcases hs with h | h
    · refine ⟨h, ?_⟩
      obtain ⟨n, v, r, hn, _, rfl, _⟩ := hx.noput hp h
      rw [uwas_append, uwas_unit] at hw
      refine hy.some_of ?_
      cases y with
      | nil => simp [uwas] at hw; omega
      | cons => simp
    · refine ⟨?_, h⟩
      obtain ⟨n, v, r, hn, _, rfl, _⟩ := hy.noput hq h
      rw [uwas_append, uwas_unit] at hw
      refine hx.some_of ?_
      cases x with
      | nil => simp [uwas] at hw; omega
      | cons => simp
  obtain ⟨n1, u, r1, h1, e1, rfl, hu, _⟩ := hx.noput hp both.1
  obtain ⟨n2, v, r2, h2, e2, rfl, hv, _⟩ := hy.noput hq both.2
  obtain ⟨n, hn⟩ : ∃ n, n = min n1 n2 := ⟨_, rfl⟩
  have hn1 : n ≤ n1 := by omega
  have hn2 : n ≤ n2 := by omega
  have d1 : ∀ (m : Nat) (w : Bool) (r : List PT), n ≤ m → (List.replicate m (unit w) ++ r).drop n = List.replicate (m - n) (unit w) ++ r := fun m w r h => by
    rw [List.drop_append_of_le_length (by simpa using h), List.drop_replicate]
  have s1 : ∀ (m : Nat) (w : Bool) (r : List PT), n ≤ m → List.replicate m (unit w) ++ r = List.replicate n (unit w) ++ (List.replicate (m - n) (unit w) ++ r) := fun m w r h => by
    rw [← List.append_assoc, List.replicate_append_replicate, show n + (m - n) = m from by omega]
  have key : tr first (List.replicate n1 (unit u) ++ r1) (List.replicate n2 (unit v) ++ r2) = (if v = true then [] else List.replicate n (unit u)) ++ tr first (List.replicate (n1 - n) (unit u) ++ r1) (List.replicate (n2 - n) (unit v) ++ r2) := by
    rw [s1 n1 u r1 hn1, s1 n2 v r2 hn2, tr_both]
  refine ⟨n, by omega, by omega, by simp; omega, by simp; omega, ?_⟩
  rw [d1 _ _ _ hn1, d1 _ _ _ hn2, key]
  refine ⟨?_, ?_, ?_, ?_⟩
  · simp only [uwas_append, uwas_unit] at hw ⊢
    omega
  · intro hk hk2
    rw [expand_snoc, exp_keep, List.append_assoc, if_neg (fun e => hv.1 e hk)]
    have : u = false := by
      cases u with
      | false => rfl
      | true => exact absurd hk2 (hu.1 rfl)
    subst this; rfl
  · intro hk hk2
    rw [expand_snoc, exp_drop, List.append_assoc, if_neg (fun e => hv.1 e hk)]
    have : u = true := hu.2 hk2
    subst this; rfl
  · intro hk
    rw [if_pos (hv.2 hk)]; rfl
end
section
variable {x y out : List PT} {p q : PT} {s t : Bool}
theorem ucomes_k (n : Nat) : ucomes (List.replicate n PT.k1) = n := by
  induction n with
  | zero => rfl
  | succ n ih => rw [List.replicate_succ, ucomes, if_neg (by decide), ih]; omega
theorem ucomes_d (n : Nat) : ucomes (List.replicate n PT.d1) = 0 := by
  induction n with
  | zero => rfl
  | succ n ih => rw [List.replicate_succ, ucomes, if_pos (by decide), ih]
theorem ucomes_b (b : U.Bs) : ucomes (b.map PT.byte) = b.length := by
  induction b with
  | nil => rfl
  | cons c b ih => simp only [List.map_cons, ucomes, List.length_cons]; rw [if_neg (by simp [PT.byte]), ih]; omega
theorem uwas_b (b : U.Bs) : uwas (b.map PT.byte) = 0 := by
  induction b with
  | nil => rfl
  | cons c b ih => simp only [List.map_cons, uwas]; rw [if_pos (isPut_byte c), ih]
theorem Nx.hdrop (h : Nx x p s) : Go.Proofs.YthbhhnfhjppbdaaDoor.hdrop x ↔ 0 < p.drop := by
  rcases h with ⟨_, ha, r, rfl⟩ | ⟨_, rfl, rfl⟩
  · rcases ha.cases with ⟨b, hb, rfl⟩ | ⟨n, hn, rfl⟩ | ⟨n, hn, rfl⟩
    · rw [exp_put]
      match b, hb with
      | c :: b, _ => simp [Go.Proofs.YthbhhnfhjppbdaaDoor.hdrop, PT.byte]
    · rw [exp_drop]
      obtain ⟨m, rfl⟩ : ∃ m, n = m + 1 := ⟨n - 1, by omega⟩
      simp [List.replicate_succ, Go.Proofs.YthbhhnfhjppbdaaDoor.hdrop, PT.d1]
    · rw [exp_keep]
      obtain ⟨m, rfl⟩ : ∃ m, n = m + 1 := ⟨n - 1, by omega⟩
      simp [List.replicate_succ, Go.Proofs.YthbhhnfhjppbdaaDoor.hdrop, PT.k1]
  · simp [Go.Proofs.YthbhhnfhjppbdaaDoor.hdrop]
theorem Nx.isPut_ (hx : Nx x p s) (hp : p.put ≠ []) : s = true ∧ p = ⟨0, 0, p.put⟩ ∧ ∃ r, x = p.put.map PT.byte ++ r := by
  rcases hx with ⟨rfl, ha, r, rfl⟩ | ⟨_, rfl, rfl⟩
  · rcases ha.cases with ⟨b, hb, rfl⟩ | ⟨n, hn, rfl⟩ | ⟨n, hn, rfl⟩
    · exact ⟨rfl, rfl, r, by rw [exp_put]⟩
    · exact absurd rfl hp
    · exact absurd rfl hp
  · exact absurd rfl hp
/-- The first one drops. -/
theorem cm_s1 (hx : Nx x p s) (hp : 0 < p.drop) (hw : ucomes x = uwas y) :
    ∃ n : Nat, 0 < n ∧ p = ⟨0, n, []⟩ ∧ expand (out ++ [p]) ++ cm (x.drop n) y = expand out ++ cm x y ∧ ucomes (x.drop n) = uwas y ∧ (x.drop n).length + n = x.length := by
  rcases hx with ⟨rfl, ha, r, rfl⟩ | ⟨_, rfl, rfl⟩
  · rcases ha.cases with ⟨b, hb, rfl⟩ | ⟨n, hn, rfl⟩ | ⟨n, hn, rfl⟩
    · exact absurd hp (by simp)
    · rw [exp_drop] at hw ⊢
      have e : (List.replicate n PT.d1 ++ r).drop n = r := by
        have := List.drop_left (l₁ := List.replicate n PT.d1) (l₂ := r)
        rwa [List.length_replicate] at this
      refine ⟨n, hn, rfl, ?_, ?_, by simp; omega⟩
      · rw [e, expand_snoc, exp_drop, cm_drop, List.append_assoc]
      · rw [e, ← hw, ucomes_append, ucomes_d]; omega
    · exact absurd hp (by simp)
  · exact absurd hp (by simp)
/-- The second one puts. -/
theorem cm_s2 (hx : Nx x p s) (hy : Nx y q t) (hp : ¬ 0 < p.drop) (hq : q.put ≠ []) (hw : ucomes x = uwas y) :
    q.arg ∧ expand (out ++ [q]) ++ cm x (y.drop q.put.length) = expand out ++ cm x y ∧ ucomes x = uwas (y.drop q.put.length) ∧ (y.drop q.put.length).length + q.put.length = y.length := by
  obtain ⟨_, hq2, r, rfl⟩ := hy.isPut_ hq
  have e : (List.map PT.byte q.put ++ r).drop q.put.length = r := by
    have := List.drop_left (l₁ := List.map PT.byte q.put) (l₂ := r)
    rwa [List.length_map] at this
  refine ⟨by rw [hq2]; exact PT.arg_put hq, ?_, ?_, by simp; omega⟩
  · rw [e, cm_put _ _ _ (fun h => hp (hx.hdrop.1 h)), expand_snoc, hq2, exp_put, List.append_assoc]
  · rw [e, hw, uwas_append, uwas_b]; omega
/-- The first one puts, the second one goes over it. -/
theorem cm_s3 (hx : Nx x p s) (hy : Nx y q t) (hp : p.put ≠ []) (hq : q.put = []) (hw : ucomes x = uwas y) :
    ∃ n : Nat, 0 < n ∧ min (p.put.length : Int) (q.keep + q.drop) = n ∧ n ≤ p.put.length ∧ n ≤ x.length ∧ n ≤ y.length ∧ ucomes (x.drop n) = uwas (y.drop n) ∧
      (0 < q.keep → (⟨0, 0, p.put.take n⟩ : PT).arg ∧ expand (out ++ [⟨0, 0, p.put.take n⟩]) ++ cm (x.drop n) (y.drop n) = expand out ++ cm x y) ∧
      (¬ 0 < q.keep → expand out ++ cm (x.drop n) (y.drop n) = expand out ++ cm x y) := by
  obtain ⟨_, hp2, r1, rfl⟩ := hx.isPut_ hp
  have hl : 0 < p.put.length := List.length_pos_iff.2 hp
  rw [ucomes_append, ucomes_b] at hw
  have ht : t = true := by
    refine hy.some_of ?_
    cases y with
    | nil => simp only [uwas] at hw; omega
    | cons => simp
  obtain ⟨n2, v, r2, h2, e2, rfl, hv, _⟩ := hy.noput hq ht
  rw [uwas_append, uwas_unit] at hw
  obtain ⟨n, hn⟩ : ∃ n, n = min p.put.length n2 := ⟨_, rfl⟩
  have hn1 : n ≤ p.put.length := by omega
  have hn2 : n ≤ n2 := by omega
  have d1 : (List.map PT.byte p.put ++ r1).drop n = List.map PT.byte (p.put.drop n) ++ r1 := by
    rw [List.drop_append_of_le_length (by simpa using hn1), List.map_drop]
  have d2 : (List.replicate n2 (unit v) ++ r2).drop n = List.replicate (n2 - n) (unit v) ++ r2 := by
    rw [List.drop_append_of_le_length (by simpa using hn2), List.drop_replicate]
  have key : cm (List.map PT.byte p.put ++ r1) (List.replicate n2 (unit v) ++ r2) = (if v = true then [] else (p.put.take n).map PT.byte) ++ cm (List.map PT.byte (p.put.drop n) ++ r1) (List.replicate (n2 - n) (unit v) ++ r2) := by
    have s1 : List.map PT.byte p.put ++ r1 = (p.put.take n).map PT.byte ++ (List.map PT.byte (p.put.drop n) ++ r1) := by
      rw [← List.append_assoc, ← List.map_append, List.take_append_drop]
    have s2 : List.replicate n2 (unit v) ++ r2 = List.replicate (p.put.take n).length (unit v) ++ (List.replicate (n2 - n) (unit v) ++ r2) := by
      rw [← List.append_assoc, List.replicate_append_replicate, List.length_take, show min n p.put.length + (n2 - n) = n2 from by omega]
    rw [s1, s2, cm_pk]
  refine ⟨n, by omega, by omega, hn1, by simp; omega, by simp; omega, ?_⟩
  rw [d1, d2, key]
  refine ⟨?_, ?_, ?_⟩
  · simp only [ucomes_append, ucomes_b, uwas_append, uwas_unit, List.length_drop] at hw ⊢
    omega
  · intro hk
    refine ⟨PT.arg_put (fun e => by have := congrArg List.length e; rw [List.length_take, List.length_nil] at this; omega), ?_⟩
    rw [expand_snoc, exp_put, List.append_assoc, if_neg (fun e => hv.1 e hk)]
  · intro hk
    rw [if_pos (hv.2 hk)]; rfl
/-- The first one keeps, the second one goes over it. -/
theorem cm_s4 (hx : Nx x p s) (hy : Nx y q t) (hp : p.put = []) (hd : ¬ 0 < p.drop) (hq : q.put = []) (hw : ucomes x = uwas y) (hs : s = true ∨ t = true) :
    ∃ n : Nat, 0 < n ∧ min p.keep (q.keep + q.drop) = n ∧ n ≤ x.length ∧ n ≤ y.length ∧ ucomes (x.drop n) = uwas (y.drop n) ∧
      (0 < q.keep → expand (out ++ [⟨n, 0, []⟩]) ++ cm (x.drop n) (y.drop n) = expand out ++ cm x y) ∧
      (¬ 0 < q.keep → expand (out ++ [⟨0, n, []⟩]) ++ cm (x.drop n) (y.drop n) = expand out ++ cm x y) := by
  have hkeep : s = true → ∃ (n : Nat) (r : List PT), 0 < n ∧ p.keep = n ∧ x = List.replicate n PT.k1 ++ r := by
    intro h
    rcases hx with ⟨_, ha, r, rfl⟩ | ⟨h', _⟩
    · rcases ha.cases with ⟨b, hb, rfl⟩ | ⟨n, hn, rfl⟩ | ⟨n, hn, rfl⟩
      · exact absurd hp hb
      · exact absurd hd (by simp; omega)
      · exact ⟨n, r, hn, rfl, by rw [exp_keep]⟩
    · subst h; exact absurd h' (by simp)
  have both : s = true ∧ t = true := by
    rcases hs with h | h
    · refine ⟨h, ?_⟩
      obtain ⟨n, r, hn, _, rfl⟩ := hkeep h
      rw [ucomes_append, ucomes_k] at hw
      refine hy.some_of ?_
      cases y with
      | nil => simp [uwas] at hw; omega
      | cons => simp
    · refine ⟨?_, h⟩
      obtain ⟨n, v, r, hn, _, rfl, _⟩ := hy.noput hq h
      rw [uwas_append, uwas_unit] at hw
      refine hx.some_of ?_
      cases x with
      | nil => simp [ucomes] at hw; omega
      | cons => simp
  obtain ⟨n1, r1, h1, e1, rfl⟩ := hkeep both.1
  obtain ⟨n2, v, r2, h2, e2, rfl, hv, _⟩ := hy.noput hq both.2
  rw [ucomes_append, ucomes_k, uwas_append, uwas_unit] at hw
  obtain ⟨n, hn⟩ : ∃ n, n = min n1 n2 := ⟨_, rfl⟩
  have hn1 : n ≤ n1 := by omega
  have hn2 : n ≤ n2 := by omega
  have d1 : ∀ (m : Nat) (w : PT) (r : List PT), n ≤ m → (List.replicate m w ++ r).drop n = List.replicate (m - n) w ++ r := fun m w r h => by
    rw [List.drop_append_of_le_length (by simpa using h), List.drop_replicate]
  have s1 : ∀ (m : Nat) (w : PT) (r : List PT), n ≤ m → List.replicate m w ++ r = List.replicate n w ++ (List.replicate (m - n) w ++ r) := fun m w r h => by
    rw [← List.append_assoc, List.replicate_append_replicate, show n + (m - n) = m from by omega]
  have key : cm (List.replicate n1 PT.k1 ++ r1) (List.replicate n2 (unit v) ++ r2) = List.replicate n (unit v) ++ cm (List.replicate (n1 - n) PT.k1 ++ r1) (List.replicate (n2 - n) (unit v) ++ r2) := by
    rw [s1 n1 PT.k1 r1 hn1, s1 n2 (unit v) r2 hn2, cm_kk]
  refine ⟨n, by omega, by omega, by simp; omega, by simp; omega, ?_⟩
  rw [d1 _ _ _ hn1, d1 _ _ _ hn2, key]
  refine ⟨?_, ?_, ?_⟩
  · simp only [ucomes_append, ucomes_k, uwas_append, uwas_unit]
    omega
  · intro hk
    have : v = false := by
      cases v with
      | false => rfl
      | true => exact absurd hk (hv.1 rfl)
    subst this
    rw [expand_snoc, exp_keep, List.append_assoc]; rfl
  · intro hk
    have : v = true := hv.2 hk
    subst this
    rw [expand_snoc, exp_drop, List.append_assoc]; rfl
end
end Go.Proofs.YthbhhnfhjppbdaaDoor
