/- Norm, Spread and Gather in plain Lean: Gather of Spread is Norm; Norm looks at an operation's bytes alone. -/
import Derived.Test.YthbhhnfhjppbdaaDoorPartC
namespace Go.Proofs.YthbhhnfhjppbdaaDoor
/-- Norm's state: what stands, what is put and what is dropped behind it. -/
structure NS where
  out : List PT
  put : U.Bs
  drop : Int
/-- What flush lays behind what stands. -/
def flushP (put : U.Bs) (drop : Int) : List PT := (if put = [] then [] else [⟨0, 0, put⟩]) ++ (if 0 < drop then [⟨0, drop, []⟩] else [])
def NS.all (s : NS) : List PT := s.out ++ flushP s.put s.drop
/-- The last part keeps so many more. -/
def moreLast (k : Int) : List PT → List PT
  | [] => []
  | [p] => [⟨p.keep + k, p.drop, p.put⟩]
  | p :: q :: l => p :: moreLast k (q :: l)
def NS.kept (s : NS) (p : PT) : NS :=
  if s.put ≠ [] ∨ 0 < s.drop ∨ s.out = [] then ⟨s.all ++ [p], [], 0⟩ else ⟨moreLast p.keep s.out, [], 0⟩
def NS.step (s : NS) (p : PT) : NS :=
  if p.put ≠ [] then ⟨s.out, s.put ++ p.put, s.drop⟩
  else if 0 < p.drop then ⟨s.out, s.put, s.drop + p.drop⟩
  else if 0 < p.keep then s.kept p
  else s
def NS.zero : NS := ⟨[], [], 0⟩
def nrun (s : NS) (l : List PT) : NS := l.foldl NS.step s
/-- Norm. -/
def norm (l : List PT) : List PT := (nrun .zero l).all
/-- A byte that is put, one that is dropped, one that is kept. -/
def PT.byte (c : UInt8) : PT := ⟨0, 0, [c]⟩
def PT.d1 : PT := ⟨0, 1, []⟩
def PT.k1 : PT := ⟨1, 0, []⟩
/-- A part, byte by byte. -/
def PT.exp (p : PT) : List PT :=
  if p.put ≠ [] then p.put.map PT.byte else if 0 < p.drop then List.replicate p.drop.toNat PT.d1 else List.replicate p.keep.toNat PT.k1
def expand (l : List PT) : List PT := l.flatMap PT.exp
theorem expand_nil : expand [] = [] := rfl
theorem expand_cons (p : PT) (l : List PT) : expand (p :: l) = p.exp ++ expand l := by simp [expand]
theorem expand_append (a b : List PT) : expand (a ++ b) = expand a ++ expand b := by simp [expand]
theorem nrun_nil (s : NS) : nrun s [] = s := rfl
theorem nrun_cons (s : NS) (p : PT) (l : List PT) : nrun s (p :: l) = nrun (s.step p) l := rfl
theorem nrun_append (s : NS) (a b : List PT) : nrun s (a ++ b) = nrun (nrun s a) b := by unfold nrun; rw [List.foldl_append]
theorem exp_put {b : U.Bs} : (⟨0, 0, b⟩ : PT).exp = b.map PT.byte := by
  unfold PT.exp
  by_cases h : b = []
  · subst h; simp
  · simp [h]
theorem nrun_bytes (s : NS) (b : U.Bs) : nrun s (b.map PT.byte) = ⟨s.out, s.put ++ b, s.drop⟩ := by
  induction b generalizing s with
  | nil => simp [nrun]
  | cons c b ih =>
    rw [List.map_cons, nrun_cons, ih]
    simp [NS.step, PT.byte]
theorem nrun_d1 (s : NS) (k : Nat) : nrun s (List.replicate k PT.d1) = ⟨s.out, s.put, s.drop + k⟩ := by
  induction k generalizing s with
  | zero => simp [nrun]
  | succ k ih =>
    rw [List.replicate_succ, nrun_cons, ih]
    simp only [NS.step, PT.d1]
    simp; omega
theorem moreLast_ne {k : Int} {l : List PT} (h : l ≠ []) : moreLast k l ≠ [] := by
  match l, h with
  | [_], _ => simp [moreLast]
  | _ :: _ :: _, _ => simp [moreLast]
theorem moreLast_snoc (k : Int) (l : List PT) (p : PT) : moreLast k (l ++ [p]) = l ++ [⟨p.keep + k, p.drop, p.put⟩] := by
  induction l with
  | nil => rfl
  | cons q l ih =>
    cases l with
    | nil => rfl
    | cons r l => simp only [List.cons_append, moreLast] at ih ⊢; rw [ih]
theorem moreLast_length (k : Int) (l : List PT) : (moreLast k l).length = l.length := by
  rcases List.eq_nil_or_concat l with rfl | ⟨a, b, rfl⟩
  · rfl
  · rw [List.concat_eq_append, moreLast_snoc]; simp
theorem moreLast_more (a b : Int) (l : List PT) : moreLast a (moreLast b l) = moreLast (b + a) l := by
  rcases List.eq_nil_or_concat l with rfl | ⟨x, p, rfl⟩
  · rfl
  · rw [List.concat_eq_append, moreLast_snoc, moreLast_snoc, moreLast_snoc]; simp; omega
theorem step_k1 (s : NS) : s.step PT.k1 = s.kept PT.k1 := by simp [NS.step, PT.k1]
theorem kept_k1 (s : NS) (k : Int) : (s.kept ⟨k, 0, []⟩).kept PT.k1 = s.kept ⟨k + 1, 0, []⟩ := by
  unfold NS.kept
  by_cases h : s.put ≠ [] ∨ 0 < s.drop ∨ s.out = []
  · rw [if_pos h, if_pos h, if_neg (by simp), moreLast_snoc]; rfl
  · rw [if_neg h, if_neg h]
    have h3 : s.out ≠ [] := fun e => h (.inr (.inr e))
    rw [if_neg (by simp [moreLast_ne h3]), moreLast_more]; rfl
theorem nrun_k1 (s : NS) (k : Nat) : nrun s (List.replicate (k + 1) PT.k1) = s.kept ⟨(k : Int) + 1, 0, []⟩ := by
  induction k with
  | zero => simp only [List.replicate_succ, List.replicate_zero, nrun_cons, nrun_nil, step_k1]; rfl
  | succ k ih =>
    rw [List.replicate_succ', nrun_append, ih, nrun_cons, nrun_nil, step_k1, kept_k1]
    simp
theorem step_exp (s : NS) {p : PT} (h : p.arg) : s.step p = nrun s p.exp := by
  obtain ⟨k, d, b⟩ := p
  obtain ⟨h1, h2, h3⟩ := h
  dsimp only at h2 h3
  unfold PT.exp NS.step
  dsimp only
  by_cases hb : b ≠ []
  · rw [if_pos hb, if_pos hb, nrun_bytes]
  · rw [if_neg hb, if_neg hb]
    by_cases hd : 0 < d
    · rw [if_pos hd, if_pos hd, nrun_d1, Int.toNat_of_nonneg h3]
    · rw [if_neg hd, if_neg hd]
      obtain rfl : d = 0 := by omega
      obtain rfl : b = [] := by simpa using hb
      by_cases hk : 0 < k
      · rw [if_pos hk]
        obtain ⟨m, rfl⟩ : ∃ m : Nat, k = (m : Int) + 1 := ⟨(k - 1).toNat, by omega⟩
        rw [show ((m : Int) + 1).toNat = m + 1 from by omega, nrun_k1]
      · rw [if_neg hk]
        obtain rfl : k = 0 := by omega
        rfl
theorem nrun_expand (s : NS) {l : List PT} (h : ∀ p ∈ l, p.arg) : nrun s l = nrun s (expand l) := by
  induction l generalizing s with
  | nil => rfl
  | cons p l ih => rw [nrun_cons, expand_cons, nrun_append, ← step_exp s (h p (by simp)), ih _ (fun q hq => h q (by simp [hq]))]
theorem norm_expand {a b : List PT} (ha : ∀ p ∈ a, p.arg) (hb : ∀ p ∈ b, p.arg) (h : expand a = expand b) : norm a = norm b := by
  unfold norm; rw [nrun_expand _ ha, nrun_expand _ hb, h]
/-- Gaps: what is put ahead of each byte, which bytes are dropped, what is put at the end. -/
structure SS where
  l : List (U.Bs × Bool)
  e : U.Bs
def SS.zero : SS := ⟨[], []⟩
def SS.P (s : SS) : List U.Bs := s.l.map (·.1) ++ [s.e]
def SS.D (s : SS) : List Bool := s.l.map (·.2)
def SS.take (x : Bool) : Nat → SS → SS
  | 0, s => s
  | k + 1, s => SS.take x k ⟨s.l ++ [(s.e, x)], []⟩
def SS.step (s : SS) (p : PT) : SS := SS.take false p.keep.toNat (SS.take true p.drop.toNat ⟨s.l, s.e ++ p.put⟩)
/-- Spread. -/
def spread (l : List PT) : SS := l.foldl SS.step .zero
theorem SS.take_P (x : Bool) (k : Nat) (s : SS) : (SS.take x k s).P = s.P ++ List.replicate k [] := by
  induction k generalizing s with
  | zero => simp [SS.take]
  | succ k ih => rw [SS.take, ih]; simp [SS.P, List.replicate_succ]
theorem SS.take_D (x : Bool) (k : Nat) (s : SS) : (SS.take x k s).D = s.D ++ List.replicate k x := by
  induction k generalizing s with
  | zero => simp [SS.take]
  | succ k ih => rw [SS.take, ih]; simp [SS.D, List.replicate_succ]
theorem SS.P_length (s : SS) : s.P.length = s.l.length + 1 := by simp [SS.P]
theorem SS.D_length (s : SS) : s.D.length = s.l.length := by simp [SS.D]
def unit (x : Bool) : PT := if x then PT.d1 else PT.k1
/-- Gaps, byte by byte. -/
def SS.exp (s : SS) : List PT := s.l.flatMap (fun p => p.1.map PT.byte ++ [unit p.2]) ++ s.e.map PT.byte
theorem SS.exp_take (x : Bool) (k : Nat) (s : SS) : (SS.take x k s).exp = s.exp ++ List.replicate k (unit x) := by
  induction k generalizing s with
  | zero => simp [SS.take]
  | succ k ih => rw [SS.take, ih]; simp [SS.exp, List.replicate_succ]
theorem SS.exp_step (s : SS) {p : PT} (h : p.arg) : (s.step p).exp = s.exp ++ p.exp := by
  obtain ⟨k, d, b⟩ := p
  obtain ⟨h1, h2, h3⟩ := h
  dsimp only at h2 h3
  unfold SS.step PT.exp
  dsimp only
  rw [SS.exp_take, SS.exp_take]
  have he : (⟨s.l, s.e ++ b⟩ : SS).exp = s.exp ++ b.map PT.byte := by simp [SS.exp]
  rw [he]
  unfold PT.some at h1
  dsimp only at h1
  by_cases hb : b ≠ []
  · have hk : k = 0 := by
      by_cases h : k = 0
      · exact h
      · rw [if_neg h, if_neg hb] at h1; omega
    have hd : d = 0 := by
      by_cases h : d = 0
      · exact h
      · rw [if_neg h, if_neg hb] at h1; omega
    rw [if_pos hb, hk, hd]; simp
  · rw [if_neg hb]
    obtain rfl : b = [] := by simpa using hb
    by_cases hd : 0 < d
    · have hk : k = 0 := by
        by_cases h : k = 0
        · exact h
        · rw [if_neg h, if_neg (by omega)] at h1; omega
      rw [if_pos hd, hk]; simp [unit]
    · rw [if_neg hd]
      obtain rfl : d = 0 := by omega
      simp [unit]
theorem spread_exp {l : List PT} (h : ∀ p ∈ l, p.arg) : (spread l).exp = expand l := by
  suffices hs : ∀ s : SS, (l.foldl SS.step s).exp = s.exp ++ expand l by
    have := hs .zero
    simpa [spread, SS.exp, SS.zero] using this
  induction l with
  | nil => simp [expand]
  | cons p l ih =>
    intro s
    rw [List.foldl_cons, ih (fun q hq => h q (by simp [hq])), SS.exp_step s (h p (by simp)), expand_cons, List.append_assoc]
/-- Gather's state. -/
structure GS where
  out : List PT
  put : U.Bs
  drop : Int
  keep : Int
def GS.zero : GS := ⟨[], [], 0, 0⟩
def keepP (k : Int) : List PT := if 0 < k then [⟨k, 0, []⟩] else []
def GS.gap (s : GS) (b : U.Bs) (x : Bool) : GS := if b ≠ [] ∨ x = true then ⟨s.out ++ keepP s.keep, s.put ++ b, s.drop, 0⟩ else s
def GS.byte (s : GS) (x : Bool) : GS := if x = true then ⟨s.out, s.put, s.drop + 1, s.keep⟩ else ⟨s.out ++ flushP s.put s.drop, [], 0, s.keep + 1⟩
def GS.step (s : GS) (p : U.Bs × Bool) : GS := (s.gap p.1 p.2).byte p.2
def GS.fin (s : GS) : List PT := s.out ++ keepP s.keep ++ flushP s.put s.drop
/-- Gather. -/
def gather (g : SS) : List PT := ((g.l.foldl GS.step .zero).gap g.e false).fin
def GS.ns (s : GS) : NS := ⟨s.out ++ keepP s.keep, s.put, s.drop⟩
structure GS.Ok (s : GS) : Prop where
  d : 0 ≤ s.drop
  k : 0 ≤ s.keep
  pend : 0 < s.keep → s.put = [] ∧ s.drop = 0
  fresh : s.keep = 0 → s.put = [] → s.drop = 0 → s.out = []
theorem GS.fin_eq (s : GS) : s.fin = s.ns.all := rfl
theorem keepP_zero : keepP 0 = [] := rfl
theorem GS.ok_zero : GS.zero.Ok := ⟨Int.le_refl _, Int.le_refl _, fun h => absurd h (by simp [GS.zero]), fun _ _ _ => rfl⟩
/-- A gap: the same as what is put there. -/
theorem GS.gap_put {s : GS} (b : U.Bs) (x : Bool) : (s.gap b x).ns = nrun s.ns (b.map PT.byte) := by
  rw [nrun_bytes]
  unfold GS.gap
  by_cases h : b ≠ [] ∨ x = true
  · rw [if_pos h]; simp [GS.ns, keepP_zero]
  · rw [if_neg h]
    have hb : b = [] := by
      by_cases e : b = []
      · exact e
      · exact absurd (.inl e) h
    subst hb; simp [GS.ns]
theorem GS.step_ns {s : GS} (h : s.Ok) (b : U.Bs) (x : Bool) : (s.step (b, x)).ns = nrun s.ns (b.map PT.byte ++ [unit x]) ∧ (s.step (b, x)).Ok := by
  obtain ⟨h1, h2, h3, h4⟩ := h
  rw [nrun_append, ← GS.gap_put b x, nrun_cons, nrun_nil]
  unfold GS.step
  dsimp only
  cases x with
  | true =>
    unfold GS.gap GS.byte
    simp only [or_true, if_true, unit]
    constructor
    · simp [GS.ns, NS.step, PT.d1]
    · exact ⟨by simp; omega, Int.le_refl _, fun h => absurd h (by simp), fun _ _ hd => by dsimp only at hd; omega⟩
  | false =>
    simp only [unit, if_false, Bool.false_eq_true, step_k1]
    unfold GS.byte
    simp only [if_false, Bool.false_eq_true]
    by_cases hb : b = []
    · subst hb
      have hg : s.gap [] false = s := by simp [GS.gap]
      rw [hg]
      constructor
      · unfold NS.kept GS.ns
        dsimp only
        by_cases hc : s.put ≠ [] ∨ 0 < s.drop ∨ s.out ++ keepP s.keep = []
        · rw [if_pos hc]
          have hk : s.keep = 0 := by
            by_cases hk : 0 < s.keep
            · obtain ⟨e1, e2⟩ := h3 hk
              rcases hc with hc | hc | hc
              · exact absurd e1 hc
              · omega
              · simp [keepP, hk] at hc
            · omega
          rw [hk]; simp [NS.all, keepP, PT.k1]
        · rw [if_neg hc]
          have e1 : s.put = [] := by
            by_cases e : s.put = []
            · exact e
            · exact absurd (.inl e) hc
          have e2 : s.drop = 0 := by
            by_cases e : 0 < s.drop
            · exact absurd (.inr (.inl e)) hc
            · omega
          have hk : 0 < s.keep := by
            by_cases hk : s.keep = 0
            · exact absurd (.inr (.inr (by rw [h4 hk e1 e2, hk]; rfl))) hc
            · omega
          rw [e1, e2]
          simp only [flushP, if_true, keepP, hk, PT.k1]
          rw [moreLast_snoc, if_pos (show 0 < s.keep + 1 by omega)]
          simp
      · exact ⟨Int.le_refl _, by dsimp only; omega, fun _ => ⟨rfl, rfl⟩, fun h => by dsimp only at h; omega⟩
    · have hg : s.gap b false = ⟨s.out ++ keepP s.keep, s.put ++ b, s.drop, 0⟩ := by simp [GS.gap, hb]
      rw [hg]
      have hpb : s.put ++ b ≠ [] := by simp [hb]
      constructor
      · unfold NS.kept GS.ns
        dsimp only
        rw [if_pos (.inl hpb)]
        simp [NS.all, keepP, PT.k1]
      · exact ⟨Int.le_refl _, by dsimp only; omega, fun _ => ⟨rfl, rfl⟩, fun h => by dsimp only at h; omega⟩
theorem gather_run {l : List (U.Bs × Bool)} {s : GS} (h : s.Ok) : (l.foldl GS.step s).ns = nrun s.ns (l.flatMap fun p => p.1.map PT.byte ++ [unit p.2]) := by
  induction l generalizing s with
  | nil => rfl
  | cons p l ih =>
    obtain ⟨b, x⟩ := p
    obtain ⟨h1, h2⟩ := GS.step_ns h b x
    rw [List.foldl_cons, ih h2, h1, ← nrun_append, List.flatMap_cons]
theorem gather_eq (g : SS) : gather g = (nrun .zero g.exp).all := by
  unfold gather
  rw [GS.fin_eq, GS.gap_put, gather_run GS.ok_zero, ← nrun_append]
  rfl
/-- Gather of Spread is Norm. -/
theorem gather_spread {l : List PT} (h : ∀ p ∈ l, p.arg) : gather (spread l) = norm l := by
  rw [gather_eq, spread_exp h, norm, nrun_expand _ h]
theorem PT.arg.cases {p : PT} (h : p.arg) : (∃ b, b ≠ [] ∧ p = ⟨0, 0, b⟩) ∨ (∃ n : Nat, 0 < n ∧ p = ⟨0, n, []⟩) ∨ (∃ n : Nat, 0 < n ∧ p = ⟨n, 0, []⟩) := by
  obtain ⟨k, d, b⟩ := p
  obtain ⟨h1, h2, h3⟩ := h
  unfold PT.some at h1
  dsimp only at h1 h2 h3
  by_cases hb : b = []
  · subst hb
    by_cases hd : d = 0
    · subst hd
      by_cases hk : k = 0
      · subst hk; simp at h1
      · exact .inr (.inr ⟨k.toNat, by omega, by rw [Int.toNat_of_nonneg h2]⟩)
    · by_cases hk : k = 0
      · subst hk; exact .inr (.inl ⟨d.toNat, by omega, by rw [Int.toNat_of_nonneg h3]⟩)
      · simp [hd, hk] at h1
  · have hk : k = 0 := by
      by_cases h : k = 0
      · exact h
      · rw [if_neg h, if_neg hb] at h1; omega
    have hd : d = 0 := by
      by_cases h : d = 0
      · exact h
      · rw [if_neg h, if_neg hb] at h1; omega
    subst hk hd
    exact .inl ⟨b, hb, rfl⟩
theorem PT.arg_put {b : U.Bs} (h : b ≠ []) : (⟨0, 0, b⟩ : PT).arg := ⟨by simp [PT.some, h], Int.le_refl _, Int.le_refl _⟩
theorem PT.arg_drop {n : Int} (h : 0 < n) : (⟨0, n, []⟩ : PT).arg := ⟨by simp [PT.some]; omega, Int.le_refl _, Int.le_of_lt h⟩
theorem PT.arg_keep {n : Int} (h : 0 < n) : (⟨n, 0, []⟩ : PT).arg := ⟨by simp [PT.some]; omega, Int.le_of_lt h, Int.le_refl _⟩
end Go.Proofs.YthbhhnfhjppbdaaDoor
