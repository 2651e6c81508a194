/- Several texts of the proof, one behind the other: PartC, NormM, NormP, TransM, TapeM, PartF, FewB. -/
import Derived.Test.YtdgdajnbkfmijaaGreatDoorMRoomMeets4
import Derived.Test.YtdgdajnbkfmijaaGreatDoorMRoomMeets20
/- What Check tells of an operation, in plain Lean; the reference's Check. -/
namespace Go.Proofs.YtdgdajnbkfmijaaGreatDoor
open Go.RowKit
set_option maxRecDepth 100000
/-- How many of a part's three are set. -/
def PT.some (p : PT) : Nat := (if p.keep = 0 then 0 else 1) + (if p.drop = 0 then 0 else 1) + (if p.put = [] then 0 else 1)
def PT.arg (p : PT) : Prop := p.some = 1 ∧ 0 ≤ p.keep ∧ 0 ≤ p.drop
instance (p : PT) : Decidable p.arg := by unfold PT.arg; infer_instance
/-- What it puts is UTF-8. -/
def PT.form (p : PT) : Prop := ∃ rs, U.Sp p.put rs []
open Classical in
/-- The first round: 0, or ErrArg, or ErrForm. -/
noncomputable def e1 : List PT → Int
  | [] => 0
  | p :: l => if ¬ p.arg then 1 else if ¬ p.form then 3 else e1 l
/-- The second round: 0 or ErrRange. -/
def e2 (n : Int) : List PT → Int
  | [] => if n = 0 then 0 else 2
  | p :: l => if n < p.keep ∨ n < p.drop then 2 else e2 (n - p.keep - p.drop) l
noncomputable def chk (l : List PT) (n : Int) : Int := if e1 l = 0 then e2 n l else e1 l
def PT.Good (p : PT) : Prop := p.arg ∧ p.form
theorem e1_split {l : List PT} {k : Nat} (hk : k < l.length) (h : ∀ p ∈ l.take k, p.Good) : e1 l = e1 (l.drop k) := by
  induction k generalizing l with
  | zero => rfl
  | succ k ih =>
    cases l with
    | nil => simp at hk
    | cons p l =>
      have hp : p.Good := h p (by simp)
      have h2 := ih (l := l) (by simpa using hk) (fun q hq => h q (by simp [hq]))
      simp only [e1, List.drop_succ_cons]
      rw [if_neg (fun h => h hp.1), if_neg (fun h => h hp.2), h2]
theorem e1_arg {l : List PT} {k : Nat} (hk : k < l.length) (h : ∀ p ∈ l.take k, p.Good) (ha : ¬ l[k].arg) : e1 l = 1 := by
  rw [e1_split hk h, List.drop_eq_getElem_cons hk, e1, if_pos ha]
theorem e1_form {l : List PT} {k : Nat} (hk : k < l.length) (h : ∀ p ∈ l.take k, p.Good) (ha : l[k].arg) (hf : ¬ l[k].form) : e1 l = 3 := by
  rw [e1_split hk h, List.drop_eq_getElem_cons hk, e1, if_neg (fun h => h ha), if_pos hf]
theorem e1_good {l : List PT} (h : ∀ p ∈ l, p.Good) : e1 l = 0 := by
  induction l with
  | nil => rfl
  | cons p l ih =>
    have hp : p.Good := h p (by simp)
    rw [e1, if_neg (fun h => h hp.1), if_neg (fun h => h hp.2), ih (fun q hq => h q (by simp [hq]))]
section
attribute [local go_sem] add_mk
end
end Go.Proofs.YtdgdajnbkfmijaaGreatDoor
/- Norm, Spread and Gather in plain Lean: Gather of Spread is Norm; Norm looks at an operation's bytes alone. -/
namespace Go.Proofs.YtdgdajnbkfmijaaGreatDoor
/-- Norm's state: what stands, what is put and what is dropped behind it. -/
structure NS where
  out : List PT
  put : U.Bs
  drop : Int
/-- What flush lays behind what stands. -/
def flushP (put : U.Bs) (drop : Int) : List PT := (if put = [] then [] else [⟨0, 0, put⟩]) ++ (if 0 < drop then [⟨0, drop, []⟩] else [])
def NS.all (s : NS) : List PT := s.out ++ flushP s.put s.drop
/-- The last part keeps so many more. -/
def moreLast (k : Int) : List PT → List PT
  | [] => []
  | [p] => [⟨p.keep + k, p.drop, p.put⟩]
  | p :: q :: l => p :: moreLast k (q :: l)
def NS.kept (s : NS) (p : PT) : NS :=
  if s.put ≠ [] ∨ 0 < s.drop ∨ s.out = [] then ⟨s.all ++ [p], [], 0⟩ else ⟨moreLast p.keep s.out, [], 0⟩
def NS.step (s : NS) (p : PT) : NS :=
  if p.put ≠ [] then ⟨s.out, s.put ++ p.put, s.drop⟩
  else if 0 < p.drop then ⟨s.out, s.put, s.drop + p.drop⟩
  else if 0 < p.keep then s.kept p
  else s
def NS.zero : NS := ⟨[], [], 0⟩
def nrun (s : NS) (l : List PT) : NS := l.foldl NS.step s
/-- Norm. -/
def norm (l : List PT) : List PT := (nrun .zero l).all
/-- A byte that is put, one that is dropped, one that is kept. -/
def PT.byte (c : UInt8) : PT := ⟨0, 0, [c]⟩
def PT.d1 : PT := ⟨0, 1, []⟩
def PT.k1 : PT := ⟨1, 0, []⟩
/-- A part, byte by byte. -/
def PT.exp (p : PT) : List PT :=
  if p.put ≠ [] then p.put.map PT.byte else if 0 < p.drop then List.replicate p.drop.toNat PT.d1 else List.replicate p.keep.toNat PT.k1
def expand (l : List PT) : List PT := l.flatMap PT.exp
theorem expand_nil : expand [] = [] := rfl
theorem expand_cons (p : PT) (l : List PT) : expand (p :: l) = p.exp ++ expand l := by simp [expand]
theorem expand_append (a b : List PT) : expand (a ++ b) = expand a ++ expand b := by simp [expand]
theorem nrun_nil (s : NS) : nrun s [] = s := rfl
theorem nrun_cons (s : NS) (p : PT) (l : List PT) : nrun s (p :: l) = nrun (s.step p) l := rfl
theorem nrun_append (s : NS) (a b : List PT) : nrun s (a ++ b) = nrun (nrun s a) b := by unfold nrun; rw [List.foldl_append]
theorem exp_put {b : U.Bs} : (⟨0, 0, b⟩ : PT).exp = b.map PT.byte := by
  unfold PT.exp
  by_cases h : b = []
  · subst h; simp
  · simp [h]
theorem nrun_bytes (s : NS) (b : U.Bs) : nrun s (b.map PT.byte) = ⟨s.out, s.put ++ b, s.drop⟩ := by
  induction b generalizing s with
  | nil => simp [nrun]
  | cons c b ih =>
    rw [List.map_cons, nrun_cons, ih]
    simp [NS.step, PT.byte]
theorem nrun_d1 (s : NS) (k : Nat) : nrun s (List.replicate k PT.d1) = ⟨s.out, s.put, s.drop + k⟩ := by
  induction k generalizing s with
  | zero => simp [nrun]
  | succ k ih =>
    rw [List.replicate_succ, nrun_cons, ih]
    simp only [NS.step, PT.d1]
    simp; omega
theorem moreLast_ne {k : Int} {l : List PT} (h : l ≠ []) : moreLast k l ≠ [] := by
  match l, h with
  | [_], _ => simp [moreLast]
  | _ :: _ :: _, _ => simp [moreLast]
theorem moreLast_snoc (k : Int) (l : List PT) (p : PT) : moreLast k (l ++ [p]) = l ++ [⟨p.keep + k, p.drop, p.put⟩] := by
  induction l with
  | nil => rfl
  | cons q l ih =>
    cases l with
    | nil => rfl
    | cons r l => simp only [List.cons_append, moreLast] at ih ⊢; rw [ih]
theorem moreLast_length (k : Int) (l : List PT) : (moreLast k l).length = l.length := by
  rcases List.eq_nil_or_concat l with rfl | ⟨a, b, rfl⟩
  · rfl
  · rw [List.concat_eq_append, moreLast_snoc]; simp
theorem moreLast_more (a b : Int) (l : List PT) : moreLast a (moreLast b l) = moreLast (b + a) l := by
  rcases List.eq_nil_or_concat l with rfl | ⟨x, p, rfl⟩
  · rfl
  · rw [List.concat_eq_append, moreLast_snoc, moreLast_snoc, moreLast_snoc]; simp; omega
theorem step_k1 (s : NS) : s.step PT.k1 = s.kept PT.k1 := by simp [NS.step, PT.k1]
theorem kept_k1 (s : NS) (k : Int) : (s.kept ⟨k, 0, []⟩).kept PT.k1 = s.kept ⟨k + 1, 0, []⟩ := by
  unfold NS.kept
  by_cases h : s.put ≠ [] ∨ 0 < s.drop ∨ s.out = []
  · rw [if_pos h, if_pos h, if_neg (by simp), moreLast_snoc]; rfl
  · rw [if_neg h, if_neg h]
    have h3 : s.out ≠ [] := fun e => h (.inr (.inr e))
    rw [if_neg (by simp [moreLast_ne h3]), moreLast_more]; rfl
theorem nrun_k1 (s : NS) (k : Nat) : nrun s (List.replicate (k + 1) PT.k1) = s.kept ⟨(k : Int) + 1, 0, []⟩ := by
  induction k with
  | zero => simp only [List.replicate_succ, List.replicate_zero, nrun_cons, nrun_nil, step_k1]; rfl
  | succ k ih =>
    rw [List.replicate_succ', nrun_append, ih, nrun_cons, nrun_nil, step_k1, kept_k1]
    simp
theorem step_exp (s : NS) {p : PT} (h : p.arg) : s.step p = nrun s p.exp := by
  obtain ⟨k, d, b⟩ := p
  obtain ⟨h1, h2, h3⟩ := h
  dsimp only at h2 h3
  unfold PT.exp NS.step
  dsimp only
  by_cases hb : b ≠ []
  · rw [if_pos hb, if_pos hb, nrun_bytes]
  · rw [if_neg hb, if_neg hb]
    by_cases hd : 0 < d
    · rw [if_pos hd, if_pos hd, nrun_d1, Int.toNat_of_nonneg h3]
    · rw [if_neg hd, if_neg hd]
      obtain rfl : d = 0 := by omega
      obtain rfl : b = [] := by simpa using hb
      by_cases hk : 0 < k
      · rw [if_pos hk]
        obtain ⟨m, rfl⟩ : ∃ m : Nat, k = (m : Int) + 1 := ⟨(k - 1).toNat, by omega⟩
        rw [show ((m : Int) + 1).toNat = m + 1 from by omega, nrun_k1]
      · rw [if_neg hk]
        obtain rfl : k = 0 := by omega
        rfl
theorem nrun_expand (s : NS) {l : List PT} (h : ∀ p ∈ l, p.arg) : nrun s l = nrun s (expand l) := by
  induction l generalizing s with
  | nil => rfl
  | cons p l ih => rw [nrun_cons, expand_cons, nrun_append, ← step_exp s (h p (by simp)), ih _ (fun q hq => h q (by simp [hq]))]
/-- Gaps: what is put ahead of each byte, which bytes are dropped, what is put at the end. -/
structure SS where
  l : List (U.Bs × Bool)
  e : U.Bs
def SS.zero : SS := ⟨[], []⟩
def SS.P (s : SS) : List U.Bs := s.l.map (·.1) ++ [s.e]
def SS.D (s : SS) : List Bool := s.l.map (·.2)
def SS.take (x : Bool) : Nat → SS → SS
  | 0, s => s
  | k + 1, s => SS.take x k ⟨s.l ++ [(s.e, x)], []⟩
def SS.step (s : SS) (p : PT) : SS := SS.take false p.keep.toNat (SS.take true p.drop.toNat ⟨s.l, s.e ++ p.put⟩)
def unit (x : Bool) : PT := if x then PT.d1 else PT.k1
/-- Gaps, byte by byte. -/
def SS.exp (s : SS) : List PT := s.l.flatMap (fun p => p.1.map PT.byte ++ [unit p.2]) ++ s.e.map PT.byte
/-- Gather's state. -/
structure GS where
  out : List PT
  put : U.Bs
  drop : Int
  keep : Int
def GS.zero : GS := ⟨[], [], 0, 0⟩
def keepP (k : Int) : List PT := if 0 < k then [⟨k, 0, []⟩] else []
def GS.gap (s : GS) (b : U.Bs) (x : Bool) : GS := if b ≠ [] ∨ x = true then ⟨s.out ++ keepP s.keep, s.put ++ b, s.drop, 0⟩ else s
def GS.byte (s : GS) (x : Bool) : GS := if x = true then ⟨s.out, s.put, s.drop + 1, s.keep⟩ else ⟨s.out ++ flushP s.put s.drop, [], 0, s.keep + 1⟩
def GS.step (s : GS) (p : U.Bs × Bool) : GS := (s.gap p.1 p.2).byte p.2
def GS.fin (s : GS) : List PT := s.out ++ keepP s.keep ++ flushP s.put s.drop
def GS.ns (s : GS) : NS := ⟨s.out ++ keepP s.keep, s.put, s.drop⟩
structure GS.Ok (s : GS) : Prop where
  d : 0 ≤ s.drop
  k : 0 ≤ s.keep
  pend : 0 < s.keep → s.put = [] ∧ s.drop = 0
  fresh : s.keep = 0 → s.put = [] → s.drop = 0 → s.out = []
theorem PT.arg.cases {p : PT} (h : p.arg) : (∃ b, b ≠ [] ∧ p = ⟨0, 0, b⟩) ∨ (∃ n : Nat, 0 < n ∧ p = ⟨0, n, []⟩) ∨ (∃ n : Nat, 0 < n ∧ p = ⟨n, 0, []⟩) := by
  obtain ⟨k, d, b⟩ := p
  obtain ⟨h1, h2, h3⟩ := h
  unfold PT.some at h1
  dsimp only at h1 h2 h3
  by_cases hb : b = []
  · subst hb
    by_cases hd : d = 0
    · subst hd
      by_cases hk : k = 0
      · subst hk; simp at h1
      · exact .inr (.inr ⟨k.toNat, by omega, by rw [Int.toNat_of_nonneg h2]⟩)
    · by_cases hk : k = 0
      · subst hk; exact .inr (.inl ⟨d.toNat, by omega, by rw [Int.toNat_of_nonneg h3]⟩)
      · simp [hd, hk] at h1
  · have hk : k = 0 := by
      by_cases h : k = 0
      · exact h
      · rw [if_neg h, if_neg hb] at h1; omega
    have hd : d = 0 := by
      by_cases h : d = 0
      · exact h
      · rw [if_neg h, if_neg hb] at h1; omega
    subst hk hd
    exact .inl ⟨b, hb, rfl⟩
theorem PT.arg_put {b : U.Bs} (h : b ≠ []) : (⟨0, 0, b⟩ : PT).arg := ⟨by simp [PT.some, h], Int.le_refl _, Int.le_refl _⟩
theorem PT.arg_drop {n : Int} (h : 0 < n) : (⟨0, n, []⟩ : PT).arg := ⟨by simp [PT.some]; omega, Int.le_refl _, Int.le_of_lt h⟩
theorem PT.arg_keep {n : Int} (h : 0 < n) : (⟨n, 0, []⟩ : PT).arg := ⟨by simp [PT.some]; omega, Int.le_of_lt h, Int.le_refl _⟩
end Go.Proofs.YtdgdajnbkfmijaaGreatDoor
/- Norm in plain Lean: bounds, and what its parts are. -/
namespace Go.Proofs.YtdgdajnbkfmijaaGreatDoor
/-- How much is put in all. -/
def plen : List PT → Nat
  | [] => 0
  | p :: l => p.put.length + plen l
theorem plen_append (a b : List PT) : plen (a ++ b) = plen a + plen b := by
  induction a with
  | nil => simp [plen]
  | cons p a ih => rw [List.cons_append, plen, plen, ih]; omega
theorem plen_take (l : List PT) (k : Nat) : plen (l.take k) ≤ plen l := by
  conv => rhs; rw [← List.take_append_drop k l]
  rw [plen_append]; omega
theorem was_nn {l : List PT} (h : ∀ p ∈ l, p.arg) : 0 ≤ was l := by
  induction l with
  | nil => simp [was]
  | cons p l ih =>
    have h1 := h p (by simp)
    have h2 := ih (fun q hq => h q (by simp [hq]))
    obtain ⟨_, h3, h4⟩ := h1
    rw [was]; omega
theorem was_take {l : List PT} (h : ∀ p ∈ l, p.arg) (k : Nat) : was (l.take k) ≤ was l := by
  conv => rhs; rw [← List.take_append_drop k l]
  rw [was_append]
  have := was_nn (l := l.drop k) (fun p hp => h p (List.mem_of_mem_drop hp))
  omega
theorem flushP_length (b : U.Bs) (d : Int) : (flushP b d).length ≤ 2 := by
  unfold flushP
  split <;> split <;> simp
theorem step_bd {s : NS} {p : PT} (h : p.arg) (hd : 0 ≤ s.drop) : (s.step p).out.length ≤ s.out.length + 3 ∧ (s.step p).put.length ≤ s.put.length + p.put.length ∧ 0 ≤ (s.step p).drop ∧ (s.step p).drop ≤ s.drop + p.drop := by
  obtain ⟨h1, h2, h3⟩ := h
  unfold NS.step
  split
  · exact ⟨by dsimp only; omega, by simp, hd, by dsimp only; omega⟩
  · split
    · exact ⟨by dsimp only; omega, by dsimp only; omega, by dsimp only; omega, by dsimp only; omega⟩
    · split
      · unfold NS.kept
        split
        · have := flushP_length s.put s.drop
          exact ⟨by simp [NS.all]; omega, by simp, by simp, by dsimp only; omega⟩
        · exact ⟨by dsimp only; rw [moreLast_length]; omega, by simp, by simp, by dsimp only; omega⟩
      · exact ⟨by omega, by omega, hd, by omega⟩
theorem nrun_bd {l : List PT} (h : ∀ p ∈ l, p.arg) (k : Nat) : (nrun .zero (l.take k)).out.length ≤ 3 * k ∧ (nrun .zero (l.take k)).put.length ≤ plen l ∧ 0 ≤ (nrun .zero (l.take k)).drop ∧ (nrun .zero (l.take k)).drop ≤ was l := by
  suffices hs : ∀ m (s : List PT), s.length = m → (∀ p ∈ s, p.arg) → (nrun .zero s).out.length ≤ 3 * m ∧ (nrun .zero s).put.length ≤ plen s ∧ 0 ≤ (nrun .zero s).drop ∧ (nrun .zero s).drop ≤ was s by
    obtain ⟨a, b, c, d⟩ := hs _ _ rfl (fun p hp => h p (List.mem_of_mem_take hp))
    rw [List.length_take] at a
    exact ⟨by omega, Nat.le_trans b (plen_take l k), c, Int.le_trans d (was_take h k)⟩
  intro m
  induction m with
  | zero =>
    intro s hs _
    obtain rfl := List.eq_nil_of_length_eq_zero hs
    exact ⟨by simp [nrun, NS.zero], by simp [nrun, NS.zero], by simp [nrun, NS.zero], by simp [nrun, NS.zero, was]⟩
  | succ m ih =>
    intro s hs ha
    have hne : s ≠ [] := by intro e; subst e; simp at hs
    have e := List.dropLast_concat_getLast hne
    generalize s.getLast hne = p at e
    generalize s.dropLast = t at e
    subst e
    obtain ⟨a, b, c, d⟩ := ih t (by simpa using hs) (fun q hq => ha q (by simp [hq]))
    obtain ⟨a2, b2, c2, d2⟩ := step_bd (s := nrun .zero t) (ha p (by simp)) c
    have hk := (ha p (by simp)).2.1
    have e2 : nrun .zero (t ++ [p]) = (nrun .zero t).step p := by rw [nrun_append]; rfl
    rw [e2, plen_append, was_append]
    simp only [plen, was]
    exact ⟨by omega, by omega, c2, by omega⟩
theorem nrun_snoc {l : List PT} {k : Nat} (h : k < l.length) : nrun .zero (l.take (k + 1)) = (nrun .zero (l.take k)).step l[k] := by
  rw [List.take_succ_eq_append_getElem h, nrun_append]; rfl
/-- What holds of Norm's state. -/
structure NOk (s : NS) : Prop where
  d : 0 ≤ s.drop
  a : ∀ p ∈ s.out, p.arg
  e : s.out = [] ∨ ∃ (i : List PT) (k : Int), 0 < k ∧ s.out = i ++ [⟨k, 0, []⟩]
theorem flushP_arg (b : U.Bs) (d : Int) : ∀ p ∈ flushP b d, p.arg := by
  intro p hp
  unfold flushP at hp
  rw [List.mem_append] at hp
  rcases hp with hp | hp
  · split at hp
    · simp at hp
    · rename_i h
      obtain rfl := List.mem_singleton.1 hp
      exact PT.arg_put h
  · split at hp
    · rename_i h
      obtain rfl := List.mem_singleton.1 hp
      exact PT.arg_drop h
    · simp at hp
theorem flushP_was (b : U.Bs) {d : Int} (h : 0 ≤ d) : was (flushP b d) = d ∧ plen (flushP b d) = b.length := by
  unfold flushP
  constructor
  · rw [was_append]
    split <;> split <;> simp [was] <;> omega
  · rw [plen_append]
    split <;> split <;> simp_all [plen]
theorem step_ok {s : NS} {p : PT} (h : NOk s) (ha : p.arg) : NOk (s.step p) ∧ was (s.step p).out + (s.step p).drop = was s.out + s.drop + (p.keep + p.drop) ∧ plen (s.step p).out + (s.step p).put.length = plen s.out + s.put.length + p.put.length := by
  obtain ⟨h1, h2, h3⟩ := h
  rcases ha.cases with ⟨q, hq, rfl⟩ | ⟨m, hm, rfl⟩ | ⟨m, hm, rfl⟩
  · have e : s.step ⟨0, 0, q⟩ = ⟨s.out, s.put ++ q, s.drop⟩ := by simp [NS.step, hq]
    rw [e]; exact ⟨⟨h1, h2, h3⟩, by dsimp only; omega, by simp; omega⟩
  · have e : s.step ⟨0, m, []⟩ = ⟨s.out, s.put, s.drop + m⟩ := by simp [NS.step, hm]
    rw [e]; exact ⟨⟨by dsimp only; omega, h2, h3⟩, by dsimp only; omega, by simp⟩
  · have e : s.step ⟨m, 0, []⟩ = s.kept ⟨m, 0, []⟩ := by
      simp only [NS.step, ne_eq, not_true_eq_false, if_false, Int.lt_irrefl]
      rw [if_pos (by omega)]
    rw [e]; unfold NS.kept
    split
    · rename_i hc
      obtain ⟨f1, f2⟩ := flushP_was s.put h1
      refine ⟨⟨Int.le_refl _, ?_, .inr ⟨s.all, m, by omega, rfl⟩⟩, ?_, ?_⟩
      · intro p hp
        dsimp only [NS.all] at hp
        rw [List.mem_append, List.mem_append] at hp
        rcases hp with (hp | hp) | hp
        · exact h2 p hp
        · exact flushP_arg _ _ p hp
        · obtain rfl := List.mem_singleton.1 hp
          exact PT.arg_keep (by omega)
      · dsimp only [NS.all]
        rw [was_append, was_append, f1]; simp [was]
      · dsimp only [NS.all]
        rw [plen_append, plen_append, f2]; simp [plen]
    · rename_i hc
      have e1 : s.put = [] := by
        by_cases e : s.put = []
        · exact e
        · exact absurd (.inl e) hc
      have e2 : s.drop = 0 := by
        by_cases e : 0 < s.drop
        · exact absurd (.inr (.inl e)) hc
        · omega
      rcases h3 with h3 | ⟨i, k, hk, h3⟩
      · exact absurd (.inr (.inr h3)) hc
      · rw [h3, moreLast_snoc, e1, e2]
        rw [h3] at h2
        refine ⟨⟨Int.le_refl _, ?_, .inr ⟨i, k + m, by omega, rfl⟩⟩, ?_, ?_⟩
        · intro p hp
          dsimp only at hp
          rw [List.mem_append] at hp
          rcases hp with hp | hp
          · exact h2 p (by simp [hp])
          · obtain rfl := List.mem_singleton.1 hp
            exact PT.arg_keep (by omega)
        · dsimp only; rw [was_append, was_append]; simp [was]; omega
        · dsimp only; rw [plen_append, plen_append]; simp [plen]
theorem NOk.zero : NOk .zero := ⟨Int.le_refl _, fun p hp => by simp [NS.zero] at hp, .inl rfl⟩
theorem nrun_ok {l : List PT} (h : ∀ p ∈ l, p.arg) (s : NS) (hs : NOk s) : NOk (nrun s l) ∧ was (nrun s l).out + (nrun s l).drop = was s.out + s.drop + was l ∧ plen (nrun s l).out + (nrun s l).put.length = plen s.out + s.put.length + plen l := by
  induction l generalizing s with
  | nil => exact ⟨hs, by simp [nrun, was], by simp [nrun, plen]⟩
  | cons p l ih =>
    obtain ⟨a, b, c⟩ := step_ok hs (h p (by simp))
    obtain ⟨a2, b2, c2⟩ := ih (fun q hq => h q (by simp [hq])) _ a
    rw [nrun_cons, was, plen]
    exact ⟨a2, by omega, by omega⟩
theorem norm_ok {l : List PT} (h : ∀ p ∈ l, p.arg) : (∀ p ∈ norm l, p.arg) ∧ was (norm l) = was l ∧ plen (norm l) = plen l := by
  obtain ⟨a, b, c⟩ := nrun_ok h .zero NOk.zero
  unfold norm NS.all
  obtain ⟨f1, f2⟩ := flushP_was (nrun .zero l).put a.d
  refine ⟨?_, ?_, ?_⟩
  · intro p hp
    rw [List.mem_append] at hp
    rcases hp with hp | hp
    · exact a.a p hp
    · exact flushP_arg _ _ p hp
  · rw [was_append, f1, b]; simp [NS.zero, was]
  · rw [plen_append, f2, c]; simp [NS.zero, plen]
end Go.Proofs.YtdgdajnbkfmijaaGreatDoor
/- Transform and Compose in plain Lean, byte by byte. -/
namespace Go.Proofs.YtdgdajnbkfmijaaGreatDoor
/-- A unit is a byte that is put. -/
def isPut (p : PT) : Bool := p.put ≠ []
/-- One operation's bytes over what another one makes. -/
def tr (first : Bool) : List PT → List PT → List PT
  | p :: x, q :: y =>
    if isPut p = true ∧ (first = true ∨ isPut q = false) then p :: tr first x (q :: y)
    else if isPut q = true then PT.k1 :: tr first (p :: x) y
    else if q.drop = 0 then p :: tr first x y else tr first x y
  | p :: x, [] => if isPut p = true then p :: tr first x [] else []
  | [], q :: y => if isPut q = true then PT.k1 :: tr first [] y else []
  | [], [] => []
termination_by x y => x.length + y.length
theorem isPut_byte (c : UInt8) : isPut (PT.byte c) = true := rfl
theorem isPut_d1 : isPut PT.d1 = false := rfl
theorem isPut_k1 : isPut PT.k1 = false := rfl
theorem isPut_unit (x : Bool) : isPut (unit x) = false := by cases x <;> rfl
/-- Does a list begin with what is put? -/
def hput : List PT → Bool
  | [] => false
  | p :: _ => isPut p
theorem tr_put {first : Bool} (b : U.Bs) (x y : List PT) (h : first = true ∨ hput y = false) : tr first (b.map PT.byte ++ x) y = b.map PT.byte ++ tr first x y := by
  induction b with
  | nil => rfl
  | cons c b ih =>
    simp only [List.map_cons, List.cons_append]
    cases y with
    | nil => rw [tr, if_pos (isPut_byte c), ih]
    | cons q y => rw [tr, if_pos ⟨isPut_byte c, h⟩, ih]
theorem tr_keep {first : Bool} (b : U.Bs) (x y : List PT) (h : first = false ∨ hput x = false) : tr first x (b.map PT.byte ++ y) = List.replicate b.length PT.k1 ++ tr first x y := by
  induction b with
  | nil => rfl
  | cons c b ih =>
    simp only [List.map_cons, List.cons_append, List.length_cons, List.replicate_succ]
    cases x with
    | nil => rw [tr, if_pos (isPut_byte c), ih]
    | cons p x =>
      rw [tr, if_neg, if_pos (isPut_byte c), ih]
      rintro ⟨h1, h2⟩
      rw [isPut_byte] at h2
      rcases h with h | h
      · subst h; simp at h2
      · have h' : isPut p = false := h; rw [h'] at h1; exact absurd h1 (by simp)
theorem tr_both {first : Bool} (n : Nat) (u v : Bool) (x y : List PT) : tr first (List.replicate n (unit u) ++ x) (List.replicate n (unit v) ++ y) = (if v = true then [] else List.replicate n (unit u)) ++ tr first x y := by
  induction n with
  | zero => simp
  | succ n ih =>
    simp only [List.replicate_succ, List.cons_append]
    rw [tr, if_neg (by simp [isPut_unit]), if_neg (by simp [isPut_unit]), ih]
    cases v <;> simp [unit, PT.d1, PT.k1]
/-- Two operations' bytes in one. -/
def cm : List PT → List PT → List PT
  | p :: x, q :: y =>
    if 0 < p.drop then p :: cm x (q :: y)
    else if isPut q = true then q :: cm (p :: x) y
    else if isPut p = true then (if 0 < q.keep then [p] else []) ++ cm x y
    else (if 0 < q.keep then [PT.k1] else [PT.d1]) ++ cm x y
  | p :: x, [] => if 0 < p.drop then p :: cm x [] else []
  | [], q :: y => if isPut q = true then q :: cm [] y else []
  | [], [] => []
termination_by x y => x.length + y.length
/-- Does a list begin with what is dropped? -/
def hdrop : List PT → Prop
  | [] => False
  | p :: _ => 0 < p.drop
theorem cm_drop (n : Nat) (x y : List PT) : cm (List.replicate n PT.d1 ++ x) y = List.replicate n PT.d1 ++ cm x y := by
  induction n with
  | zero => rfl
  | succ n ih =>
    simp only [List.replicate_succ, List.cons_append]
    cases y with
    | nil => rw [cm, if_pos (by decide), ih]
    | cons q y => rw [cm, if_pos (by decide), ih]
theorem cm_put (b : U.Bs) (x y : List PT) (h : ¬ hdrop x) : cm x (b.map PT.byte ++ y) = b.map PT.byte ++ cm x y := by
  induction b with
  | nil => rfl
  | cons c b ih =>
    simp only [List.map_cons, List.cons_append]
    cases x with
    | nil => rw [cm, if_pos (isPut_byte c), ih]
    | cons p x => rw [cm, if_neg (show ¬ 0 < p.drop from h), if_pos (isPut_byte c), ih]
theorem cm_pk (b : U.Bs) (v : Bool) (x y : List PT) : cm (b.map PT.byte ++ x) (List.replicate b.length (unit v) ++ y) = (if v = true then [] else b.map PT.byte) ++ cm x y := by
  induction b with
  | nil => cases v <;> rfl
  | cons c b ih =>
    simp only [List.map_cons, List.cons_append, List.length_cons, List.replicate_succ]
    rw [cm, if_neg (by simp [PT.byte]), if_neg (by simp [isPut_unit]), if_pos (isPut_byte c), ih]
    cases v <;> simp [unit, PT.k1, PT.d1]
theorem cm_kk (n : Nat) (v : Bool) (x y : List PT) : cm (List.replicate n PT.k1 ++ x) (List.replicate n (unit v) ++ y) = List.replicate n (unit v) ++ cm x y := by
  induction n with
  | zero => rfl
  | succ n ih =>
    simp only [List.replicate_succ, List.cons_append]
    rw [cm, if_neg (by decide), if_neg (by simp [isPut_unit]), if_neg (by simp [isPut_k1]), ih]
    cases v <;> simp [unit, PT.k1, PT.d1]
/-- A byte of what comes: of the text (its number), or put (-1). -/
structure Cl where
  from_ : Int
  c : UInt8
/-- How many bytes units take of the text, and make. -/
def uwas : List PT → Nat
  | [] => 0
  | p :: l => (if isPut p = true then 0 else 1) + uwas l
def ucomes : List PT → Nat
  | [] => 0
  | p :: l => (if 0 < p.drop then 0 else 1) + ucomes l
/-- The gaps behind one cell more; at the end. -/
def SS.cell (s : SS) (x : Cl) : SS := if x.from_ < 0 then ⟨s.l, s.e ++ [x.c]⟩ else SS.take false 1 (SS.take true (x.from_.toNat - s.l.length) s)
end Go.Proofs.YtdgdajnbkfmijaaGreatDoor
/- Tapes in plain Lean: one step of Transform and of Compose. -/
namespace Go.Proofs.YtdgdajnbkfmijaaGreatDoor
theorem exp_drop (n : Nat) : (⟨0, n, []⟩ : PT).exp = List.replicate n PT.d1 := by
  unfold PT.exp
  rw [if_neg (by simp)]
  dsimp only
  by_cases h : 0 < (n : Int)
  · rw [if_pos h]; simp
  · rw [if_neg h]; obtain rfl : n = 0 := by omega
    rfl
theorem exp_keep (n : Nat) : (⟨n, 0, []⟩ : PT).exp = List.replicate n PT.k1 := by
  unfold PT.exp
  rw [if_neg (by simp)]
  dsimp only
  rw [if_neg (by decide)]; simp
/-- How much a part has. -/
def PT.size (p : PT) : Nat := p.exp.length
theorem size_put (b : U.Bs) : (⟨0, 0, b⟩ : PT).size = b.length := by rw [PT.size, exp_put]; simp
theorem size_drop (n : Nat) : (⟨0, n, []⟩ : PT).size = n := by rw [PT.size, exp_drop]; simp
theorem size_keep (n : Nat) : (⟨n, 0, []⟩ : PT).size = n := by rw [PT.size, exp_keep]; simp
theorem PT.arg.pos {p : PT} (h : p.arg) : 0 < p.size := by
  rcases h.cases with ⟨b, hb, rfl⟩ | ⟨n, hn, rfl⟩ | ⟨n, hn, rfl⟩
  · rw [size_put]; exact List.length_pos_iff.2 hb
  · rw [size_drop]; exact hn
  · rw [size_keep]; exact hn
/-- What is left of a part of which so much was taken. -/
def PT.left (p : PT) (n : Nat) : PT := if p.put ≠ [] then ⟨0, 0, p.put.drop n⟩ else if 0 < p.keep then ⟨p.keep - n, 0, []⟩ else ⟨0, p.drop - n, []⟩
theorem PT.left_exp {p : PT} (h : p.arg) {n : Nat} (hn : n ≤ p.size) : (p.left n).exp = p.exp.drop n := by
  rcases h.cases with ⟨b, hb, rfl⟩ | ⟨m, hm, rfl⟩ | ⟨m, hm, rfl⟩
  · simp only [PT.left, if_pos hb, ne_eq]; rw [exp_put, exp_put, List.map_drop]
  · rw [size_drop] at hn
    simp only [PT.left, ne_eq, not_true_eq_false, if_false, Int.lt_irrefl]
    rw [show ((m : Int) - n) = ((m - n : Nat) : Int) from by omega, exp_drop, exp_drop, List.drop_replicate]
  · rw [size_keep] at hn
    simp only [PT.left, ne_eq, not_true_eq_false, if_false]
    rw [if_pos (by omega), show ((m : Int) - n) = ((m - n : Nat) : Int) from by omega, exp_keep, exp_keep, List.drop_replicate]
theorem PT.left_arg {p : PT} (h : p.arg) {n : Nat} (hn : n < p.size) : (p.left n).arg := by
  rcases h.cases with ⟨b, hb, rfl⟩ | ⟨m, hm, rfl⟩ | ⟨m, hm, rfl⟩
  · rw [size_put] at hn
    simp only [PT.left, if_pos hb, ne_eq]
    exact PT.arg_put (fun e => by have := congrArg List.length e; simp at this; omega)
  · rw [size_drop] at hn
    simp only [PT.left, ne_eq, not_true_eq_false, if_false, Int.lt_irrefl]
    exact PT.arg_drop (by omega)
  · rw [size_keep] at hn
    simp only [PT.left, ne_eq, not_true_eq_false, if_false]
    rw [if_pos (by omega)]
    exact PT.arg_keep (by omega)
/-- A tape's place is one. -/
def Tok (l : List PT) (n : Nat) : Prop := (∀ p ∈ l, p.arg) ∧ match l with | [] => n = 0 | p :: _ => n ≤ p.size
/-- What a tape has yet, byte by byte. -/
def tape (l : List PT) (n : Nat) : List PT := (expand l).drop n
/-- What next gives: a part p that begins what there is yet; or none. -/
def Nx (u : List PT) (p : PT) (some : Bool) : Prop := (some = true ∧ p.arg ∧ ∃ r, u = p.exp ++ r) ∨ (some = false ∧ p = ⟨0, 0, []⟩ ∧ u = [])
theorem tape_skip {p : PT} {l : List PT} {n : Nat} (h : n = p.size) : tape (p :: l) n = tape l 0 := by
  unfold tape
  rw [expand_cons, h, PT.size, List.drop_left, List.drop_zero]
theorem tape_cons {p : PT} {l : List PT} {n : Nat} (h : n ≤ p.size) (ha : p.arg) : tape (p :: l) n = (p.left n).exp ++ expand l := by
  unfold tape
  rw [expand_cons, List.drop_append_of_le_length h, PT.left_exp ha h]
theorem tape_take {l : List PT} {n m : Nat} : tape l (n + m) = (tape l n).drop m := by unfold tape; rw [List.drop_drop]
theorem Nx.hput {u : List PT} {p : PT} {s : Bool} (h : Nx u p s) : hput u = decide (p.put ≠ []) := by
  rcases h with ⟨_, ha, r, rfl⟩ | ⟨_, rfl, rfl⟩
  · rcases ha.cases with ⟨b, hb, rfl⟩ | ⟨n, hn, rfl⟩ | ⟨n, hn, rfl⟩
    · rw [exp_put]
      match b, hb with
      | c :: b, _ => simp [Go.Proofs.YtdgdajnbkfmijaaGreatDoor.hput, isPut_byte]
    · rw [exp_drop]
      obtain ⟨m, rfl⟩ : ∃ m, n = m + 1 := ⟨n - 1, by omega⟩
      simp [List.replicate_succ, Go.Proofs.YtdgdajnbkfmijaaGreatDoor.hput, isPut_d1]
    · rw [exp_keep]
      obtain ⟨m, rfl⟩ : ∃ m, n = m + 1 := ⟨n - 1, by omega⟩
      simp [List.replicate_succ, Go.Proofs.YtdgdajnbkfmijaaGreatDoor.hput, isPut_k1]
  · simp [Go.Proofs.YtdgdajnbkfmijaaGreatDoor.hput]
theorem expand_snoc (l : List PT) (p : PT) : expand (l ++ [p]) = expand l ++ p.exp := by rw [expand_append]; simp [expand]
section
variable {first : Bool} {x y out : List PT} {p q : PT} {s t : Bool}
theorem tr_s1 (hx : Nx x p s) (hy : Nx y q t) (hp : p.put ≠ []) (h : first = true ∨ q.put = []) :
    s = true ∧ p.arg ∧ expand (out ++ [p]) ++ tr first (x.drop p.put.length) y = expand out ++ tr first x y ∧ uwas (x.drop p.put.length) = uwas x ∧ (x.drop p.put.length).length + p.put.length = x.length := by
  rcases hx with ⟨rfl, ha, r, rfl⟩ | ⟨_, rfl, rfl⟩
  · refine ⟨rfl, ha, ?_⟩
    rcases ha.cases with ⟨b, hb, rfl⟩ | ⟨n, hn, rfl⟩ | ⟨n, hn, rfl⟩
    · have e : (List.map PT.byte b ++ r).drop b.length = r := by
        have := List.drop_left (l₁ := List.map PT.byte b) (l₂ := r)
        rwa [List.length_map] at this
      rw [expand_snoc, exp_put]
      dsimp only
      rw [e, tr_put b r y (h.imp id fun hq => by rw [hy.hput, hq]; simp), List.append_assoc]
      refine ⟨rfl, ?_, by simp; omega⟩
      clear e hb hp ha
      induction b with
      | nil => rfl
      | cons c b ih => simp only [List.map_cons, List.cons_append, uwas, isPut_byte, if_true, ← ih]; omega
    · exact absurd rfl hp
    · exact absurd rfl hp
  · exact absurd rfl hp
theorem tr_s2 (hx : Nx x p s) (hy : Nx y q t) (hq : q.put ≠ []) (h : first = false ∨ p.put = []) :
    t = true ∧ (⟨q.put.length, 0, []⟩ : PT).arg ∧ expand (out ++ [⟨q.put.length, 0, []⟩]) ++ tr first x (y.drop q.put.length) = expand out ++ tr first x y ∧ uwas (y.drop q.put.length) = uwas y ∧ (y.drop q.put.length).length + q.put.length = y.length := by
  have hl : 0 < q.put.length := List.length_pos_iff.2 hq
  rcases hy with ⟨rfl, ha, r, rfl⟩ | ⟨_, rfl, rfl⟩
  · refine ⟨rfl, PT.arg_keep (by omega), ?_⟩
    rcases ha.cases with ⟨b, hb, rfl⟩ | ⟨n, hn, rfl⟩ | ⟨n, hn, rfl⟩
    · have e : (List.map PT.byte b ++ r).drop b.length = r := by
        have := List.drop_left (l₁ := List.map PT.byte b) (l₂ := r)
        rwa [List.length_map] at this
      rw [expand_snoc, exp_keep, exp_put]
      dsimp only
      rw [e, tr_keep b x r (h.imp id fun hq => by rw [hx.hput, hq]; simp), List.append_assoc]
      refine ⟨rfl, ?_, by simp; omega⟩
      clear e hb hq ha hl
      induction b with
      | nil => rfl
      | cons c b ih => simp only [List.map_cons, List.cons_append, uwas, isPut_byte, if_true, ← ih]; omega
    · exact absurd rfl hq
    · exact absurd rfl hq
  · exact absurd rfl hq
theorem uwas_append (a b : List PT) : uwas (a ++ b) = uwas a + uwas b := by
  induction a with
  | nil => simp [uwas]
  | cons p a ih => rw [List.cons_append, uwas, uwas, ih]; omega
theorem ucomes_append (a b : List PT) : ucomes (a ++ b) = ucomes a + ucomes b := by
  induction a with
  | nil => simp [ucomes]
  | cons p a ih => rw [List.cons_append, ucomes, ucomes, ih]; omega
theorem uwas_unit (n : Nat) (v : Bool) : uwas (List.replicate n (unit v)) = n := by
  induction n with
  | zero => rfl
  | succ n ih => rw [List.replicate_succ, uwas, if_neg (by simp [isPut_unit]), ih]; omega
/-- A part that puts nothing is so many units. -/
theorem Nx.noput (hx : Nx x p s) (hp : p.put = []) (hs : s = true) : ∃ (n : Nat) (v : Bool) (r : List PT), 0 < n ∧ p.keep + p.drop = n ∧ x = List.replicate n (unit v) ++ r ∧ (v = true ↔ ¬ 0 < p.keep) ∧ p = (if v = true then ⟨0, n, []⟩ else ⟨n, 0, []⟩) := by
  rcases hx with ⟨_, ha, r, rfl⟩ | ⟨h, _⟩
  · rcases ha.cases with ⟨b, hb, rfl⟩ | ⟨n, hn, rfl⟩ | ⟨n, hn, rfl⟩
    · exact absurd hp hb
    · exact ⟨n, true, r, hn, by simp, by rw [exp_drop]; rfl, by simp, by simp⟩
    · exact ⟨n, false, r, hn, by simp, by rw [exp_keep]; rfl, by simp; omega, by simp⟩
  · subst hs; exact absurd h (by simp)
theorem Nx.some_of (hx : Nx x p s) (h : 0 < x.length) : s = true := by
  rcases hx with ⟨h, _⟩ | ⟨_, _, rfl⟩
  · exact h
  · simp at h
/-- Where nobody puts, and something is left: both have something. -/
theorem tr_s3 (hx : Nx x p s) (hy : Nx y q t) (hp : p.put = []) (hq : q.put = []) (hw : uwas x = uwas y) (hs : s = true ∨ t = true) :
    ∃ n : Nat, 0 < n ∧ min (p.keep + p.drop) (q.keep + q.drop) = n ∧ n ≤ x.length ∧ n ≤ y.length ∧ uwas (x.drop n) = uwas (y.drop n) ∧
      (0 < q.keep → 0 < p.keep → expand (out ++ [⟨n, 0, []⟩]) ++ tr first (x.drop n) (y.drop n) = expand out ++ tr first x y) ∧
      (0 < q.keep → ¬ 0 < p.keep → expand (out ++ [⟨0, n, []⟩]) ++ tr first (x.drop n) (y.drop n) = expand out ++ tr first x y) ∧
      (¬ 0 < q.keep → expand out ++ tr first (x.drop n) (y.drop n) = expand out ++ tr first x y) := by
  have both : s = true ∧ t = true := by
    rcases hs with h | h
    · refine ⟨h, ?_⟩
      obtain ⟨n, v, r, hn, _, rfl, _⟩ := hx.noput hp h
      rw [uwas_append, uwas_unit] at hw
      refine hy.some_of ?_
      cases y with
      | nil => simp [uwas] at hw; omega
      | cons => simp
    · refine ⟨?_, h⟩
      obtain ⟨n, v, r, hn, _, rfl, _⟩ := hy.noput hq h
      rw [uwas_append, uwas_unit] at hw
      refine hx.some_of ?_
      cases x with
      | nil => simp [uwas] at hw; omega
      | cons => simp
  obtain ⟨n1, u, r1, h1, e1, rfl, hu, _⟩ := hx.noput hp both.1
  obtain ⟨n2, v, r2, h2, e2, rfl, hv, _⟩ := hy.noput hq both.2
  obtain ⟨n, hn⟩ : ∃ n, n = min n1 n2 := ⟨_, rfl⟩
  have hn1 : n ≤ n1 := by omega
  have hn2 : n ≤ n2 := by omega
  have d1 : ∀ (m : Nat) (w : Bool) (r : List PT), n ≤ m → (List.replicate m (unit w) ++ r).drop n = List.replicate (m - n) (unit w) ++ r := fun m w r h => by
    rw [List.drop_append_of_le_length (by simpa using h), List.drop_replicate]
  have s1 : ∀ (m : Nat) (w : Bool) (r : List PT), n ≤ m → List.replicate m (unit w) ++ r = List.replicate n (unit w) ++ (List.replicate (m - n) (unit w) ++ r) := fun m w r h => by
    rw [← List.append_assoc, List.replicate_append_replicate, show n + (m - n) = m from by omega]
  have key : tr first (List.replicate n1 (unit u) ++ r1) (List.replicate n2 (unit v) ++ r2) = (if v = true then [] else List.replicate n (unit u)) ++ tr first (List.replicate (n1 - n) (unit u) ++ r1) (List.replicate (n2 - n) (unit v) ++ r2) := by
    rw [s1 n1 u r1 hn1, s1 n2 v r2 hn2, tr_both]
  refine ⟨n, by omega, by omega, by simp; omega, by simp; omega, ?_⟩
  rw [d1 _ _ _ hn1, d1 _ _ _ hn2, key]
  refine ⟨?_, ?_, ?_, ?_⟩
  · simp only [uwas_append, uwas_unit] at hw ⊢
    omega
  · intro hk hk2
    rw [expand_snoc, exp_keep, List.append_assoc, if_neg (fun e => hv.1 e hk)]
    have : u = false := by
      cases u with
      | false => rfl
      | true => exact absurd hk2 (hu.1 rfl)
    subst this; rfl
  · intro hk hk2
    rw [expand_snoc, exp_drop, List.append_assoc, if_neg (fun e => hv.1 e hk)]
    have : u = true := hu.2 hk2
    subst this; rfl
  · intro hk
    rw [if_pos (hv.2 hk)]; rfl
end
section
variable {x y out : List PT} {p q : PT} {s t : Bool}
theorem ucomes_k (n : Nat) : ucomes (List.replicate n PT.k1) = n := by
  induction n with
  | zero => rfl
  | succ n ih => rw [List.replicate_succ, ucomes, if_neg (by decide), ih]; omega
theorem ucomes_d (n : Nat) : ucomes (List.replicate n PT.d1) = 0 := by
  induction n with
  | zero => rfl
  | succ n ih => rw [List.replicate_succ, ucomes, if_pos (by decide), ih]
theorem ucomes_b (b : U.Bs) : ucomes (b.map PT.byte) = b.length := by
  induction b with
  | nil => rfl
  | cons c b ih => simp only [List.map_cons, ucomes, List.length_cons]; rw [if_neg (by simp [PT.byte]), ih]; omega
theorem uwas_b (b : U.Bs) : uwas (b.map PT.byte) = 0 := by
  induction b with
  | nil => rfl
  | cons c b ih => simp only [List.map_cons, uwas]; rw [if_pos (isPut_byte c), ih]
theorem Nx.hdrop (h : Nx x p s) : Go.Proofs.YtdgdajnbkfmijaaGreatDoor.hdrop x ↔ 0 < p.drop := by
  rcases h with ⟨_, ha, r, rfl⟩ | ⟨_, rfl, rfl⟩
  · rcases ha.cases with ⟨b, hb, rfl⟩ | ⟨n, hn, rfl⟩ | ⟨n, hn, rfl⟩
    · rw [exp_put]
      match b, hb with
      | c :: b, _ => simp [Go.Proofs.YtdgdajnbkfmijaaGreatDoor.hdrop, PT.byte]
    · rw [exp_drop]
      obtain ⟨m, rfl⟩ : ∃ m, n = m + 1 := ⟨n - 1, by omega⟩
      simp [List.replicate_succ, Go.Proofs.YtdgdajnbkfmijaaGreatDoor.hdrop, PT.d1]
    · rw [exp_keep]
      obtain ⟨m, rfl⟩ : ∃ m, n = m + 1 := ⟨n - 1, by omega⟩
      simp [List.replicate_succ, Go.Proofs.YtdgdajnbkfmijaaGreatDoor.hdrop, PT.k1]
  · simp [Go.Proofs.YtdgdajnbkfmijaaGreatDoor.hdrop]
theorem Nx.isPut_ (hx : Nx x p s) (hp : p.put ≠ []) : s = true ∧ p = ⟨0, 0, p.put⟩ ∧ ∃ r, x = p.put.map PT.byte ++ r := by
  rcases hx with ⟨rfl, ha, r, rfl⟩ | ⟨_, rfl, rfl⟩
  · rcases ha.cases with ⟨b, hb, rfl⟩ | ⟨n, hn, rfl⟩ | ⟨n, hn, rfl⟩
    · exact ⟨rfl, rfl, r, by rw [exp_put]⟩
    · exact absurd rfl hp
    · exact absurd rfl hp
  · exact absurd rfl hp
/-- The first one drops. -/
theorem cm_s1 (hx : Nx x p s) (hp : 0 < p.drop) (hw : ucomes x = uwas y) :
    ∃ n : Nat, 0 < n ∧ p = ⟨0, n, []⟩ ∧ expand (out ++ [p]) ++ cm (x.drop n) y = expand out ++ cm x y ∧ ucomes (x.drop n) = uwas y ∧ (x.drop n).length + n = x.length := by
  rcases hx with ⟨rfl, ha, r, rfl⟩ | ⟨_, rfl, rfl⟩
  · rcases ha.cases with ⟨b, hb, rfl⟩ | ⟨n, hn, rfl⟩ | ⟨n, hn, rfl⟩
    · exact absurd hp (by simp)
    · rw [exp_drop] at hw ⊢
      have e : (List.replicate n PT.d1 ++ r).drop n = r := by
        have := List.drop_left (l₁ := List.replicate n PT.d1) (l₂ := r)
        rwa [List.length_replicate] at this
      refine ⟨n, hn, rfl, ?_, ?_, by simp; omega⟩
      · rw [e, expand_snoc, exp_drop, cm_drop, List.append_assoc]
      · rw [e, ← hw, ucomes_append, ucomes_d]; omega
    · exact absurd hp (by simp)
  · exact absurd hp (by simp)
/-- The second one puts. -/
theorem cm_s2 (hx : Nx x p s) (hy : Nx y q t) (hp : ¬ 0 < p.drop) (hq : q.put ≠ []) (hw : ucomes x = uwas y) :
    q.arg ∧ expand (out ++ [q]) ++ cm x (y.drop q.put.length) = expand out ++ cm x y ∧ ucomes x = uwas (y.drop q.put.length) ∧ (y.drop q.put.length).length + q.put.length = y.length := by
  obtain ⟨_, hq2, r, rfl⟩ := hy.isPut_ hq
  have e : (List.map PT.byte q.put ++ r).drop q.put.length = r := by
    have := List.drop_left (l₁ := List.map PT.byte q.put) (l₂ := r)
    rwa [List.length_map] at this
  refine ⟨by rw [hq2]; exact PT.arg_put hq, ?_, ?_, by simp; omega⟩
  · rw [e, cm_put _ _ _ (fun h => hp (hx.hdrop.1 h)), expand_snoc, hq2, exp_put, List.append_assoc]
  · rw [e, hw, uwas_append, uwas_b]; omega
/-- The first one puts, the second one goes over it. -/
theorem cm_s3 (hx : Nx x p s) (hy : Nx y q t) (hp : p.put ≠ []) (hq : q.put = []) (hw : ucomes x = uwas y) :
    ∃ n : Nat, 0 < n ∧ min (p.put.length : Int) (q.keep + q.drop) = n ∧ n ≤ p.put.length ∧ n ≤ x.length ∧ n ≤ y.length ∧ ucomes (x.drop n) = uwas (y.drop n) ∧
      (0 < q.keep → (⟨0, 0, p.put.take n⟩ : PT).arg ∧ expand (out ++ [⟨0, 0, p.put.take n⟩]) ++ cm (x.drop n) (y.drop n) = expand out ++ cm x y) ∧
      (¬ 0 < q.keep → expand out ++ cm (x.drop n) (y.drop n) = expand out ++ cm x y) := by
  obtain ⟨_, hp2, r1, rfl⟩ := hx.isPut_ hp
  have hl : 0 < p.put.length := List.length_pos_iff.2 hp
  rw [ucomes_append, ucomes_b] at hw
  have ht : t = true := by
    refine hy.some_of ?_
    cases y with
    | nil => simp only [uwas] at hw; omega
    | cons => simp
  obtain ⟨n2, v, r2, h2, e2, rfl, hv, _⟩ := hy.noput hq ht
  rw [uwas_append, uwas_unit] at hw
  obtain ⟨n, hn⟩ : ∃ n, n = min p.put.length n2 := ⟨_, rfl⟩
  have hn1 : n ≤ p.put.length := by omega
  have hn2 : n ≤ n2 := by omega
  have d1 : (List.map PT.byte p.put ++ r1).drop n = List.map PT.byte (p.put.drop n) ++ r1 := by
    rw [List.drop_append_of_le_length (by simpa using hn1), List.map_drop]
  have d2 : (List.replicate n2 (unit v) ++ r2).drop n = List.replicate (n2 - n) (unit v) ++ r2 := by
    rw [List.drop_append_of_le_length (by simpa using hn2), List.drop_replicate]
  have key : cm (List.map PT.byte p.put ++ r1) (List.replicate n2 (unit v) ++ r2) = (if v = true then [] else (p.put.take n).map PT.byte) ++ cm (List.map PT.byte (p.put.drop n) ++ r1) (List.replicate (n2 - n) (unit v) ++ r2) := by
    have s1 : List.map PT.byte p.put ++ r1 = (p.put.take n).map PT.byte ++ (List.map PT.byte (p.put.drop n) ++ r1) := by
      rw [← List.append_assoc, ← List.map_append, List.take_append_drop]
    have s2 : List.replicate n2 (unit v) ++ r2 = List.replicate (p.put.take n).length (unit v) ++ (List.replicate (n2 - n) (unit v) ++ r2) := by
      rw [← List.append_assoc, List.replicate_append_replicate, List.length_take, show min n p.put.length + (n2 - n) = n2 from by omega]
    rw [s1, s2, cm_pk]
  refine ⟨n, by omega, by omega, hn1, by simp; omega, by simp; omega, ?_⟩
  rw [d1, d2, key]
  refine ⟨?_, ?_, ?_⟩
  · simp only [ucomes_append, ucomes_b, uwas_append, uwas_unit, List.length_drop] at hw ⊢
    omega
  · intro hk
    refine ⟨PT.arg_put (fun e => by have := congrArg List.length e; rw [List.length_take, List.length_nil] at this; omega), ?_⟩
    rw [expand_snoc, exp_put, List.append_assoc, if_neg (fun e => hv.1 e hk)]
  · intro hk
    rw [if_pos (hv.2 hk)]; rfl
/-- The first one keeps, the second one goes over it. -/
theorem cm_s4 (hx : Nx x p s) (hy : Nx y q t) (hp : p.put = []) (hd : ¬ 0 < p.drop) (hq : q.put = []) (hw : ucomes x = uwas y) (hs : s = true ∨ t = true) :
    ∃ n : Nat, 0 < n ∧ min p.keep (q.keep + q.drop) = n ∧ n ≤ x.length ∧ n ≤ y.length ∧ ucomes (x.drop n) = uwas (y.drop n) ∧
      (0 < q.keep → expand (out ++ [⟨n, 0, []⟩]) ++ cm (x.drop n) (y.drop n) = expand out ++ cm x y) ∧
      (¬ 0 < q.keep → expand (out ++ [⟨0, n, []⟩]) ++ cm (x.drop n) (y.drop n) = expand out ++ cm x y) := by
  have hkeep : s = true → ∃ (n : Nat) (r : List PT), 0 < n ∧ p.keep = n ∧ x = List.replicate n PT.k1 ++ r := by
    intro h
    rcases hx with ⟨_, ha, r, rfl⟩ | ⟨h', _⟩
    · rcases ha.cases with ⟨b, hb, rfl⟩ | ⟨n, hn, rfl⟩ | ⟨n, hn, rfl⟩
      · exact absurd hp hb
      · exact absurd hd (by simp; omega)
      · exact ⟨n, r, hn, rfl, by rw [exp_keep]⟩
    · subst h; exact absurd h' (by simp)
  have both : s = true ∧ t = true := by
    rcases hs with h | h
    · refine ⟨h, ?_⟩
      obtain ⟨n, r, hn, _, rfl⟩ := hkeep h
      rw [ucomes_append, ucomes_k] at hw
      refine hy.some_of ?_
      cases y with
      | nil => simp [uwas] at hw; omega
      | cons => simp
    · refine ⟨?_, h⟩
      obtain ⟨n, v, r, hn, _, rfl, _⟩ := hy.noput hq h
      rw [uwas_append, uwas_unit] at hw
      refine hx.some_of ?_
      cases x with
      | nil => simp [ucomes] at hw; omega
      | cons => simp
  obtain ⟨n1, r1, h1, e1, rfl⟩ := hkeep both.1
  obtain ⟨n2, v, r2, h2, e2, rfl, hv, _⟩ := hy.noput hq both.2
  rw [ucomes_append, ucomes_k, uwas_append, uwas_unit] at hw
  obtain ⟨n, hn⟩ : ∃ n, n = min n1 n2 := ⟨_, rfl⟩
  have hn1 : n ≤ n1 := by omega
  have hn2 : n ≤ n2 := by omega
  have d1 : ∀ (m : Nat) (w : PT) (r : List PT), n ≤ m → (List.replicate m w ++ r).drop n = List.replicate (m - n) w ++ r := fun m w r h => by
    rw [List.drop_append_of_le_length (by simpa using h), List.drop_replicate]
  have s1 : ∀ (m : Nat) (w : PT) (r : List PT), n ≤ m → List.replicate m w ++ r = List.replicate n w ++ (List.replicate (m - n) w ++ r) := fun m w r h => by
    rw [← List.append_assoc, List.replicate_append_replicate, show n + (m - n) = m from by omega]
  have key : cm (List.replicate n1 PT.k1 ++ r1) (List.replicate n2 (unit v) ++ r2) = List.replicate n (unit v) ++ cm (List.replicate (n1 - n) PT.k1 ++ r1) (List.replicate (n2 - n) (unit v) ++ r2) := by
    rw [s1 n1 PT.k1 r1 hn1, s1 n2 (unit v) r2 hn2, cm_kk]
  refine ⟨n, by omega, by omega, by simp; omega, by simp; omega, ?_⟩
  rw [d1 _ _ _ hn1, d1 _ _ _ hn2, key]
  refine ⟨?_, ?_, ?_⟩
  · simp only [ucomes_append, ucomes_k, uwas_append, uwas_unit]
    omega
  · intro hk
    have : v = false := by
      cases v with
      | false => rfl
      | true => exact absurd hk (hv.1 rfl)
    subst this
    rw [expand_snoc, exp_keep, List.append_assoc]; rfl
  · intro hk
    have : v = true := hv.2 hk
    subst this
    rw [expand_snoc, exp_drop, List.append_assoc]; rfl
end
end Go.Proofs.YtdgdajnbkfmijaaGreatDoor
/- fine. -/
namespace Go.Proofs.YtdgdajnbkfmijaaGreatDoor
open Go.RowKit
set_option maxRecDepth 100000
attribute [local go_sem ↓] Go.wp_at_zero Go.wp_at_succ
theorem wrap_in (a : Int) : -9223372036854775808 ≤ wrap64 a ∧ wrap64 a ≤ 9223372036854775807 := by unfold wrap64; omega
end Go.Proofs.YtdgdajnbkfmijaaGreatDoor
/- How great an operation of few parts is. -/
namespace Go.Proofs.YtdgdajnbkfmijaaGreatDoor
open Go.RowKit
theorem chk_good {l : List PT} {m : Int} (h : chk l m = 0) : ∀ p ∈ l, p.Good := by
  unfold chk at h
  split at h
  · rename_i h1
    clear h
    induction l with
    | nil => intro p hp; simp at hp
    | cons p l ih =>
      unfold e1 at h1
      split at h1
      · exact absurd h1 (by decide)
      · rename_i ha
        split at h1
        · exact absurd h1 (by decide)
        · rename_i hf
          intro q hq
          rcases List.mem_cons.1 hq with rfl | hq
          · exact ⟨Classical.not_not.1 ha, Classical.not_not.1 hf⟩
          · exact ih h1 q hq
  · rename_i h1; exact absurd h h1
end Go.Proofs.YtdgdajnbkfmijaaGreatDoor
