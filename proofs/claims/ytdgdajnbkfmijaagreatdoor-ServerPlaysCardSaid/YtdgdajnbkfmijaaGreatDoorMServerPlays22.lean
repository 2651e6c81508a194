/- Several texts of the proof, one behind the other: NormM, NormP, TransM, RopeP, RopeQ, RuB, TapeM, FewB, RopeH, SayO, LaidL. -/
import Derived.Test.YtdgdajnbkfmijaaGreatDoorMServerPlays14
import Derived.Test.YtdgdajnbkfmijaaGreatDoorMServerPlays18
import Derived.Test.YtdgdajnbkfmijaaGreatDoorMServerPlays1
import Derived.Test.YtdgdajnbkfmijaaGreatDoorMServerPlays20
import Derived.Test.YtdgdajnbkfmijaaGreatDoorMServerPlays11
import Derived.Test.YtdgdajnbkfmijaaGreatDoorRows
import Derived.Test.YtdgdajnbkfmijaaGreatDoorMServerPlays12
import Derived.ChangeSame
import Derived.ChangeVars
import Derived.JoinedOf
import Derived.RowKitTokens
import Derived.LaidLaws
import Derived.LaidHandle
import Derived.Stop.Joined
/- Norm, Spread and Gather in plain Lean: Gather of Spread is Norm; Norm looks at an operation's bytes alone. -/
namespace Go.Proofs.YtdgdajnbkfmijaaGreatDoor
/-- Norm's state: what stands, what is put and what is dropped behind it. -/
structure NS where
  out : List PT
  put : U.Bs
  drop : Int
/-- What flush lays behind what stands. -/
def flushP (put : U.Bs) (drop : Int) : List PT := (if put = [] then [] else [⟨0, 0, put⟩]) ++ (if 0 < drop then [⟨0, drop, []⟩] else [])
def NS.all (s : NS) : List PT := s.out ++ flushP s.put s.drop
/-- The last part keeps so many more. -/
def moreLast (k : Int) : List PT → List PT
  | [] => []
  | [p] => [⟨p.keep + k, p.drop, p.put⟩]
  | p :: q :: l => p :: moreLast k (q :: l)
def NS.kept (s : NS) (p : PT) : NS :=
  if s.put ≠ [] ∨ 0 < s.drop ∨ s.out = [] then ⟨s.all ++ [p], [], 0⟩ else ⟨moreLast p.keep s.out, [], 0⟩
def NS.step (s : NS) (p : PT) : NS :=
  if p.put ≠ [] then ⟨s.out, s.put ++ p.put, s.drop⟩
  else if 0 < p.drop then ⟨s.out, s.put, s.drop + p.drop⟩
  else if 0 < p.keep then s.kept p
  else s
def NS.zero : NS := ⟨[], [], 0⟩
def nrun (s : NS) (l : List PT) : NS := l.foldl NS.step s
/-- Norm. -/
def norm (l : List PT) : List PT := (nrun .zero l).all
/-- A byte that is put, one that is dropped, one that is kept. -/
def PT.byte (c : UInt8) : PT := ⟨0, 0, [c]⟩
def PT.d1 : PT := ⟨0, 1, []⟩
def PT.k1 : PT := ⟨1, 0, []⟩
/-- A part, byte by byte. -/
def PT.exp (p : PT) : List PT :=
  if p.put ≠ [] then p.put.map PT.byte else if 0 < p.drop then List.replicate p.drop.toNat PT.d1 else List.replicate p.keep.toNat PT.k1
def expand (l : List PT) : List PT := l.flatMap PT.exp
theorem expand_nil : expand [] = [] := rfl
theorem expand_cons (p : PT) (l : List PT) : expand (p :: l) = p.exp ++ expand l := by simp [expand]
theorem expand_append (a b : List PT) : expand (a ++ b) = expand a ++ expand b := by simp [expand]
theorem nrun_nil (s : NS) : nrun s [] = s := rfl
theorem nrun_cons (s : NS) (p : PT) (l : List PT) : nrun s (p :: l) = nrun (s.step p) l := rfl
theorem nrun_append (s : NS) (a b : List PT) : nrun s (a ++ b) = nrun (nrun s a) b := by unfold nrun; rw [List.foldl_append]
theorem exp_put {b : U.Bs} : (⟨0, 0, b⟩ : PT).exp = b.map PT.byte := by
  unfold PT.exp
  by_cases h : b = []
  · subst h; simp
  · simp [h]
theorem nrun_bytes (s : NS) (b : U.Bs) : nrun s (b.map PT.byte) = ⟨s.out, s.put ++ b, s.drop⟩ := by
  induction b generalizing s with
  | nil => simp [nrun]
  | cons c b ih =>
    rw [List.map_cons, nrun_cons, ih]
    simp [NS.step, PT.byte]
theorem nrun_d1 (s : NS) (k : Nat) : nrun s (List.replicate k PT.d1) = ⟨s.out, s.put, s.drop + k⟩ := by
  induction k generalizing s with
  | zero => simp [nrun]
  | succ k ih =>
    rw [List.replicate_succ, nrun_cons, ih]
    simp only [NS.step, PT.d1]
    simp; omega
theorem moreLast_ne {k : Int} {l : List PT} (h : l ≠ []) : moreLast k l ≠ [] := by
  match l, h with
  | [_], _ => simp [moreLast]
  | _ :: _ :: _, _ => simp [moreLast]
theorem moreLast_snoc (k : Int) (l : List PT) (p : PT) : moreLast k (l ++ [p]) = l ++ [⟨p.keep + k, p.drop, p.put⟩] := by
  induction l with
  | nil => rfl
  | cons q l ih =>
    cases l with
    | nil => rfl
    | cons r l => simp only [List.cons_append, moreLast] at ih ⊢; rw [ih]
theorem moreLast_length (k : Int) (l : List PT) : (moreLast k l).length = l.length := by
  rcases List.eq_nil_or_concat l with rfl | ⟨a, b, rfl⟩
  · rfl
  · rw [List.concat_eq_append, moreLast_snoc]; simp
theorem moreLast_more (a b : Int) (l : List PT) : moreLast a (moreLast b l) = moreLast (b + a) l := by
  rcases List.eq_nil_or_concat l with rfl | ⟨x, p, rfl⟩
  · rfl
  · rw [List.concat_eq_append, moreLast_snoc, moreLast_snoc, moreLast_snoc]; simp; omega
theorem step_k1 (s : NS) : s.step PT.k1 = s.kept PT.k1 := by simp [NS.step, PT.k1]
theorem kept_k1 (s : NS) (k : Int) : (s.kept ⟨k, 0, []⟩).kept PT.k1 = s.kept ⟨k + 1, 0, []⟩ := by
  unfold NS.kept
  by_cases h : s.put ≠ [] ∨ 0 < s.drop ∨ s.out = []
  · rw [if_pos h, if_pos h, if_neg (by simp), moreLast_snoc]; rfl
  · rw [if_neg h, if_neg h]
    have h3 : s.out ≠ [] := fun e => h (.inr (.inr e))
    rw [if_neg (by simp [moreLast_ne h3]), moreLast_more]; rfl
theorem nrun_k1 (s : NS) (k : Nat) : nrun s (List.replicate (k + 1) PT.k1) = s.kept ⟨(k : Int) + 1, 0, []⟩ := by
  induction k with
  | zero => simp only [List.replicate_succ, List.replicate_zero, nrun_cons, nrun_nil, step_k1]; rfl
  | succ k ih =>
    rw [List.replicate_succ', nrun_append, ih, nrun_cons, nrun_nil, step_k1, kept_k1]
    simp
theorem step_exp (s : NS) {p : PT} (h : p.arg) : s.step p = nrun s p.exp := by
  obtain ⟨k, d, b⟩ := p
  obtain ⟨h1, h2, h3⟩ := h
  dsimp only at h2 h3
  unfold PT.exp NS.step
  dsimp only
  by_cases hb : b ≠ []
  · rw [if_pos hb, if_pos hb, nrun_bytes]
  · rw [if_neg hb, if_neg hb]
    by_cases hd : 0 < d
    · rw [if_pos hd, if_pos hd, nrun_d1, Int.toNat_of_nonneg h3]
    · rw [if_neg hd, if_neg hd]
      obtain rfl : d = 0 := by omega
      obtain rfl : b = [] := by simpa using hb
      by_cases hk : 0 < k
      · rw [if_pos hk]
        obtain ⟨m, rfl⟩ : ∃ m : Nat, k = (m : Int) + 1 := ⟨(k - 1).toNat, by omega⟩
        rw [show ((m : Int) + 1).toNat = m + 1 from by omega, nrun_k1]
      · rw [if_neg hk]
        obtain rfl : k = 0 := by omega
        rfl
theorem nrun_expand (s : NS) {l : List PT} (h : ∀ p ∈ l, p.arg) : nrun s l = nrun s (expand l) := by
  induction l generalizing s with
  | nil => rfl
  | cons p l ih => rw [nrun_cons, expand_cons, nrun_append, ← step_exp s (h p (by simp)), ih _ (fun q hq => h q (by simp [hq]))]
theorem norm_expand {a b : List PT} (ha : ∀ p ∈ a, p.arg) (hb : ∀ p ∈ b, p.arg) (h : expand a = expand b) : norm a = norm b := by
  unfold norm; rw [nrun_expand _ ha, nrun_expand _ hb, h]
/-- Gaps: what is put ahead of each byte, which bytes are dropped, what is put at the end. -/
structure SS where
  l : List (U.Bs × Bool)
  e : U.Bs
def SS.zero : SS := ⟨[], []⟩
def SS.P (s : SS) : List U.Bs := s.l.map (·.1) ++ [s.e]
def SS.D (s : SS) : List Bool := s.l.map (·.2)
def SS.take (x : Bool) : Nat → SS → SS
  | 0, s => s
  | k + 1, s => SS.take x k ⟨s.l ++ [(s.e, x)], []⟩
def SS.step (s : SS) (p : PT) : SS := SS.take false p.keep.toNat (SS.take true p.drop.toNat ⟨s.l, s.e ++ p.put⟩)
/-- Spread. -/
def spread (l : List PT) : SS := l.foldl SS.step .zero
theorem SS.take_P (x : Bool) (k : Nat) (s : SS) : (SS.take x k s).P = s.P ++ List.replicate k [] := by
  induction k generalizing s with
  | zero => simp [SS.take]
  | succ k ih => rw [SS.take, ih]; simp [SS.P, List.replicate_succ]
theorem SS.take_D (x : Bool) (k : Nat) (s : SS) : (SS.take x k s).D = s.D ++ List.replicate k x := by
  induction k generalizing s with
  | zero => simp [SS.take]
  | succ k ih => rw [SS.take, ih]; simp [SS.D, List.replicate_succ]
theorem SS.P_length (s : SS) : s.P.length = s.l.length + 1 := by simp [SS.P]
theorem SS.D_length (s : SS) : s.D.length = s.l.length := by simp [SS.D]
def unit (x : Bool) : PT := if x then PT.d1 else PT.k1
/-- Gaps, byte by byte. -/
def SS.exp (s : SS) : List PT := s.l.flatMap (fun p => p.1.map PT.byte ++ [unit p.2]) ++ s.e.map PT.byte
theorem SS.exp_take (x : Bool) (k : Nat) (s : SS) : (SS.take x k s).exp = s.exp ++ List.replicate k (unit x) := by
  induction k generalizing s with
  | zero => simp [SS.take]
  | succ k ih => rw [SS.take, ih]; simp [SS.exp, List.replicate_succ]
theorem SS.exp_step (s : SS) {p : PT} (h : p.arg) : (s.step p).exp = s.exp ++ p.exp := by
  obtain ⟨k, d, b⟩ := p
  obtain ⟨h1, h2, h3⟩ := h
  dsimp only at h2 h3
  unfold SS.step PT.exp
  dsimp only
  rw [SS.exp_take, SS.exp_take]
  have he : (⟨s.l, s.e ++ b⟩ : SS).exp = s.exp ++ b.map PT.byte := by simp [SS.exp]
  rw [he]
  unfold PT.some at h1
  dsimp only at h1
  by_cases hb : b ≠ []
  · have hk : k = 0 := by
      by_cases h : k = 0
      · exact h
      · rw [if_neg h, if_neg hb] at h1; omega
    have hd : d = 0 := by
      by_cases h : d = 0
      · exact h
      · rw [if_neg h, if_neg hb] at h1; omega
    rw [if_pos hb, hk, hd]; simp
  · rw [if_neg hb]
    obtain rfl : b = [] := by simpa using hb
    by_cases hd : 0 < d
    · have hk : k = 0 := by
        by_cases h : k = 0
        · exact h
        · rw [if_neg h, if_neg (by omega)] at h1; omega
      rw [if_pos hd, hk]; simp [unit]
    · rw [if_neg hd]
      obtain rfl : d = 0 := by omega
      simp [unit]
theorem spread_exp {l : List PT} (h : ∀ p ∈ l, p.arg) : (spread l).exp = expand l := by
  suffices hs : ∀ s : SS, (l.foldl SS.step s).exp = s.exp ++ expand l by
    have := hs .zero
    simpa [spread, SS.exp, SS.zero] using this
  induction l with
  | nil => simp [expand]
  | cons p l ih =>
    intro s
    rw [List.foldl_cons, ih (fun q hq => h q (by simp [hq])), SS.exp_step s (h p (by simp)), expand_cons, List.append_assoc]
/-- Gather's state. -/
structure GS where
  out : List PT
  put : U.Bs
  drop : Int
  keep : Int
def GS.zero : GS := ⟨[], [], 0, 0⟩
def keepP (k : Int) : List PT := if 0 < k then [⟨k, 0, []⟩] else []
def GS.gap (s : GS) (b : U.Bs) (x : Bool) : GS := if b ≠ [] ∨ x = true then ⟨s.out ++ keepP s.keep, s.put ++ b, s.drop, 0⟩ else s
def GS.byte (s : GS) (x : Bool) : GS := if x = true then ⟨s.out, s.put, s.drop + 1, s.keep⟩ else ⟨s.out ++ flushP s.put s.drop, [], 0, s.keep + 1⟩
def GS.step (s : GS) (p : U.Bs × Bool) : GS := (s.gap p.1 p.2).byte p.2
def GS.fin (s : GS) : List PT := s.out ++ keepP s.keep ++ flushP s.put s.drop
/-- Gather. -/
def gather (g : SS) : List PT := ((g.l.foldl GS.step .zero).gap g.e false).fin
def GS.ns (s : GS) : NS := ⟨s.out ++ keepP s.keep, s.put, s.drop⟩
structure GS.Ok (s : GS) : Prop where
  d : 0 ≤ s.drop
  k : 0 ≤ s.keep
  pend : 0 < s.keep → s.put = [] ∧ s.drop = 0
  fresh : s.keep = 0 → s.put = [] → s.drop = 0 → s.out = []
theorem GS.fin_eq (s : GS) : s.fin = s.ns.all := rfl
theorem keepP_zero : keepP 0 = [] := rfl
theorem GS.ok_zero : GS.zero.Ok := ⟨Int.le_refl _, Int.le_refl _, fun h => absurd h (by simp [GS.zero]), fun _ _ _ => rfl⟩
/-- A gap: the same as what is put there. -/
theorem GS.gap_put {s : GS} (b : U.Bs) (x : Bool) : (s.gap b x).ns = nrun s.ns (b.map PT.byte) := by
  rw [nrun_bytes]
  unfold GS.gap
  by_cases h : b ≠ [] ∨ x = true
  · rw [if_pos h]; simp [GS.ns, keepP_zero]
  · rw [if_neg h]
    have hb : b = [] := by
      by_cases e : b = []
      · exact e
      · exact absurd (.inl e) h
    subst hb; simp [GS.ns]
theorem GS.step_ns {s : GS} (h : s.Ok) (b : U.Bs) (x : Bool) : (s.step (b, x)).ns = nrun s.ns (b.map PT.byte ++ [unit x]) ∧ (s.step (b, x)).Ok := by
  obtain ⟨h1, h2, h3, h4⟩ := h
  rw [nrun_append, ← GS.gap_put b x, nrun_cons, nrun_nil]
  unfold GS.step
  dsimp only
  cases x with
  | true =>
    unfold GS.gap GS.byte
    simp only [or_true, if_true, unit]
    constructor
    · simp [GS.ns, NS.step, PT.d1]
    · exact ⟨by simp; omega, Int.le_refl _, fun h => absurd h (by simp), fun _ _ hd => by dsimp only at hd; omega⟩
  | false =>
    simp only [unit, if_false, Bool.false_eq_true, step_k1]
    unfold GS.byte
    simp only [if_false, Bool.false_eq_true]
    by_cases hb : b = []
    · subst hb
      have hg : s.gap [] false = s := by simp [GS.gap]
      rw [hg]
      constructor
      · unfold NS.kept GS.ns
        dsimp only
        by_cases hc : s.put ≠ [] ∨ 0 < s.drop ∨ s.out ++ keepP s.keep = []
        · rw [if_pos hc]
          have hk : s.keep = 0 := by
            by_cases hk : 0 < s.keep
            · obtain ⟨e1, e2⟩ := h3 hk
              rcases hc with hc | hc | hc
              · exact absurd e1 hc
              · omega
              · simp [keepP, hk] at hc
            · omega
          rw [hk]; simp [NS.all, keepP, PT.k1]
        · rw [if_neg hc]
          have e1 : s.put = [] := by
            by_cases e : s.put = []
            · exact e
            · exact absurd (.inl e) hc
          have e2 : s.drop = 0 := by
            by_cases e : 0 < s.drop
            · exact absurd (.inr (.inl e)) hc
            · omega
          have hk : 0 < s.keep := by
            by_cases hk : s.keep = 0
            · exact absurd (.inr (.inr (by rw [h4 hk e1 e2, hk]; rfl))) hc
            · omega
          rw [e1, e2]
          simp only [flushP, if_true, keepP, hk, PT.k1]
          rw [moreLast_snoc, if_pos (show 0 < s.keep + 1 by omega)]
          simp
      · exact ⟨Int.le_refl _, by dsimp only; omega, fun _ => ⟨rfl, rfl⟩, fun h => by dsimp only at h; omega⟩
    · have hg : s.gap b false = ⟨s.out ++ keepP s.keep, s.put ++ b, s.drop, 0⟩ := by simp [GS.gap, hb]
      rw [hg]
      have hpb : s.put ++ b ≠ [] := by simp [hb]
      constructor
      · unfold NS.kept GS.ns
        dsimp only
        rw [if_pos (.inl hpb)]
        simp [NS.all, keepP, PT.k1]
      · exact ⟨Int.le_refl _, by dsimp only; omega, fun _ => ⟨rfl, rfl⟩, fun h => by dsimp only at h; omega⟩
theorem gather_run {l : List (U.Bs × Bool)} {s : GS} (h : s.Ok) : (l.foldl GS.step s).ns = nrun s.ns (l.flatMap fun p => p.1.map PT.byte ++ [unit p.2]) := by
  induction l generalizing s with
  | nil => rfl
  | cons p l ih =>
    obtain ⟨b, x⟩ := p
    obtain ⟨h1, h2⟩ := GS.step_ns h b x
    rw [List.foldl_cons, ih h2, h1, ← nrun_append, List.flatMap_cons]
theorem gather_eq (g : SS) : gather g = (nrun .zero g.exp).all := by
  unfold gather
  rw [GS.fin_eq, GS.gap_put, gather_run GS.ok_zero, ← nrun_append]
  rfl
/-- Gather of Spread is Norm. -/
theorem gather_spread {l : List PT} (h : ∀ p ∈ l, p.arg) : gather (spread l) = norm l := by
  rw [gather_eq, spread_exp h, norm, nrun_expand _ h]
theorem PT.arg.cases {p : PT} (h : p.arg) : (∃ b, b ≠ [] ∧ p = ⟨0, 0, b⟩) ∨ (∃ n : Nat, 0 < n ∧ p = ⟨0, n, []⟩) ∨ (∃ n : Nat, 0 < n ∧ p = ⟨n, 0, []⟩) := by
  obtain ⟨k, d, b⟩ := p
  obtain ⟨h1, h2, h3⟩ := h
  unfold PT.some at h1
  dsimp only at h1 h2 h3
  by_cases hb : b = []
  · subst hb
    by_cases hd : d = 0
    · subst hd
      by_cases hk : k = 0
      · subst hk; simp at h1
      · exact .inr (.inr ⟨k.toNat, by omega, by rw [Int.toNat_of_nonneg h2]⟩)
    · by_cases hk : k = 0
      · subst hk; exact .inr (.inl ⟨d.toNat, by omega, by rw [Int.toNat_of_nonneg h3]⟩)
      · simp [hd, hk] at h1
  · have hk : k = 0 := by
      by_cases h : k = 0
      · exact h
      · rw [if_neg h, if_neg hb] at h1; omega
    have hd : d = 0 := by
      by_cases h : d = 0
      · exact h
      · rw [if_neg h, if_neg hb] at h1; omega
    subst hk hd
    exact .inl ⟨b, hb, rfl⟩
theorem PT.arg_put {b : U.Bs} (h : b ≠ []) : (⟨0, 0, b⟩ : PT).arg := ⟨by simp [PT.some, h], Int.le_refl _, Int.le_refl _⟩
theorem PT.arg_drop {n : Int} (h : 0 < n) : (⟨0, n, []⟩ : PT).arg := ⟨by simp [PT.some]; omega, Int.le_refl _, Int.le_of_lt h⟩
theorem PT.arg_keep {n : Int} (h : 0 < n) : (⟨n, 0, []⟩ : PT).arg := ⟨by simp [PT.some]; omega, Int.le_of_lt h, Int.le_refl _⟩
end Go.Proofs.YtdgdajnbkfmijaaGreatDoor
/- Norm in plain Lean: bounds, and what its parts are. -/
namespace Go.Proofs.YtdgdajnbkfmijaaGreatDoor
/-- How much is put in all. -/
def plen : List PT → Nat
  | [] => 0
  | p :: l => p.put.length + plen l
theorem plen_append (a b : List PT) : plen (a ++ b) = plen a + plen b := by
  induction a with
  | nil => simp [plen]
  | cons p a ih => rw [List.cons_append, plen, plen, ih]; omega
theorem plen_take (l : List PT) (k : Nat) : plen (l.take k) ≤ plen l := by
  conv => rhs; rw [← List.take_append_drop k l]
  rw [plen_append]; omega
theorem was_nn {l : List PT} (h : ∀ p ∈ l, p.arg) : 0 ≤ was l := by
  induction l with
  | nil => simp [was]
  | cons p l ih =>
    have h1 := h p (by simp)
    have h2 := ih (fun q hq => h q (by simp [hq]))
    obtain ⟨_, h3, h4⟩ := h1
    rw [was]; omega
theorem was_take {l : List PT} (h : ∀ p ∈ l, p.arg) (k : Nat) : was (l.take k) ≤ was l := by
  conv => rhs; rw [← List.take_append_drop k l]
  rw [was_append]
  have := was_nn (l := l.drop k) (fun p hp => h p (List.mem_of_mem_drop hp))
  omega
theorem flushP_length (b : U.Bs) (d : Int) : (flushP b d).length ≤ 2 := by
  unfold flushP
  split <;> split <;> simp
theorem step_bd {s : NS} {p : PT} (h : p.arg) (hd : 0 ≤ s.drop) : (s.step p).out.length ≤ s.out.length + 3 ∧ (s.step p).put.length ≤ s.put.length + p.put.length ∧ 0 ≤ (s.step p).drop ∧ (s.step p).drop ≤ s.drop + p.drop := by
  obtain ⟨h1, h2, h3⟩ := h
  unfold NS.step
  split
  · exact ⟨by dsimp only; omega, by simp, hd, by dsimp only; omega⟩
  · split
    · exact ⟨by dsimp only; omega, by dsimp only; omega, by dsimp only; omega, by dsimp only; omega⟩
    · split
      · unfold NS.kept
        split
        · have := flushP_length s.put s.drop
          exact ⟨by simp [NS.all]; omega, by simp, by simp, by dsimp only; omega⟩
        · exact ⟨by dsimp only; rw [moreLast_length]; omega, by simp, by simp, by dsimp only; omega⟩
      · exact ⟨by omega, by omega, hd, by omega⟩
theorem nrun_bd {l : List PT} (h : ∀ p ∈ l, p.arg) (k : Nat) : (nrun .zero (l.take k)).out.length ≤ 3 * k ∧ (nrun .zero (l.take k)).put.length ≤ plen l ∧ 0 ≤ (nrun .zero (l.take k)).drop ∧ (nrun .zero (l.take k)).drop ≤ was l := by
  suffices hs : ∀ m (s : List PT), s.length = m → (∀ p ∈ s, p.arg) → (nrun .zero s).out.length ≤ 3 * m ∧ (nrun .zero s).put.length ≤ plen s ∧ 0 ≤ (nrun .zero s).drop ∧ (nrun .zero s).drop ≤ was s by
    obtain ⟨a, b, c, d⟩ := hs _ _ rfl (fun p hp => h p (List.mem_of_mem_take hp))
    rw [List.length_take] at a
    exact ⟨by omega, Nat.le_trans b (plen_take l k), c, Int.le_trans d (was_take h k)⟩
  intro m
  induction m with
  | zero =>
    intro s hs _
    obtain rfl := List.eq_nil_of_length_eq_zero hs
    exact ⟨by simp [nrun, NS.zero], by simp [nrun, NS.zero], by simp [nrun, NS.zero], by simp [nrun, NS.zero, was]⟩
  | succ m ih =>
    intro s hs ha
    have hne : s ≠ [] := by intro e; subst e; simp at hs
    have e := List.dropLast_concat_getLast hne
    generalize s.getLast hne = p at e
    generalize s.dropLast = t at e
    subst e
    obtain ⟨a, b, c, d⟩ := ih t (by simpa using hs) (fun q hq => ha q (by simp [hq]))
    obtain ⟨a2, b2, c2, d2⟩ := step_bd (s := nrun .zero t) (ha p (by simp)) c
    have hk := (ha p (by simp)).2.1
    have e2 : nrun .zero (t ++ [p]) = (nrun .zero t).step p := by rw [nrun_append]; rfl
    rw [e2, plen_append, was_append]
    simp only [plen, was]
    exact ⟨by omega, by omega, c2, by omega⟩
theorem nrun_snoc {l : List PT} {k : Nat} (h : k < l.length) : nrun .zero (l.take (k + 1)) = (nrun .zero (l.take k)).step l[k] := by
  rw [List.take_succ_eq_append_getElem h, nrun_append]; rfl
/-- What holds of Norm's state. -/
structure NOk (s : NS) : Prop where
  d : 0 ≤ s.drop
  a : ∀ p ∈ s.out, p.arg
  e : s.out = [] ∨ ∃ (i : List PT) (k : Int), 0 < k ∧ s.out = i ++ [⟨k, 0, []⟩]
theorem flushP_arg (b : U.Bs) (d : Int) : ∀ p ∈ flushP b d, p.arg := by
  intro p hp
  unfold flushP at hp
  rw [List.mem_append] at hp
  rcases hp with hp | hp
  · split at hp
    · simp at hp
    · rename_i h
      obtain rfl := List.mem_singleton.1 hp
      exact PT.arg_put h
  · split at hp
    · rename_i h
      obtain rfl := List.mem_singleton.1 hp
      exact PT.arg_drop h
    · simp at hp
theorem flushP_was (b : U.Bs) {d : Int} (h : 0 ≤ d) : was (flushP b d) = d ∧ plen (flushP b d) = b.length := by
  unfold flushP
  constructor
  · rw [was_append]
    split <;> split <;> simp [was] <;> omega
  · rw [plen_append]
    split <;> split <;> simp_all [plen]
theorem step_ok {s : NS} {p : PT} (h : NOk s) (ha : p.arg) : NOk (s.step p) ∧ was (s.step p).out + (s.step p).drop = was s.out + s.drop + (p.keep + p.drop) ∧ plen (s.step p).out + (s.step p).put.length = plen s.out + s.put.length + p.put.length := by
  obtain ⟨h1, h2, h3⟩ := h
  rcases ha.cases with ⟨q, hq, rfl⟩ | ⟨m, hm, rfl⟩ | ⟨m, hm, rfl⟩
  · have e : s.step ⟨0, 0, q⟩ = ⟨s.out, s.put ++ q, s.drop⟩ := by simp [NS.step, hq]
    rw [e]; exact ⟨⟨h1, h2, h3⟩, by dsimp only; omega, by simp; omega⟩
  · have e : s.step ⟨0, m, []⟩ = ⟨s.out, s.put, s.drop + m⟩ := by simp [NS.step, hm]
    rw [e]; exact ⟨⟨by dsimp only; omega, h2, h3⟩, by dsimp only; omega, by simp⟩
  · have e : s.step ⟨m, 0, []⟩ = s.kept ⟨m, 0, []⟩ := by
      simp only [NS.step, ne_eq, not_true_eq_false, if_false, Int.lt_irrefl]
      rw [if_pos (by omega)]
    rw [e]; unfold NS.kept
    split
    · rename_i hc
      obtain ⟨f1, f2⟩ := flushP_was s.put h1
      refine ⟨⟨Int.le_refl _, ?_, .inr ⟨s.all, m, by omega, rfl⟩⟩, ?_, ?_⟩
      · intro p hp
        dsimp only [NS.all] at hp
        rw [List.mem_append, List.mem_append] at hp
        rcases hp with (hp | hp) | hp
        · exact h2 p hp
        · exact flushP_arg _ _ p hp
        · obtain rfl := List.mem_singleton.1 hp
          exact PT.arg_keep (by omega)
      · dsimp only [NS.all]
        rw [was_append, was_append, f1]; simp [was]
      · dsimp only [NS.all]
        rw [plen_append, plen_append, f2]; simp [plen]
    · rename_i hc
      have e1 : s.put = [] := by
        by_cases e : s.put = []
        · exact e
        · exact absurd (.inl e) hc
      have e2 : s.drop = 0 := by
        by_cases e : 0 < s.drop
        · exact absurd (.inr (.inl e)) hc
        · omega
      rcases h3 with h3 | ⟨i, k, hk, h3⟩
      · exact absurd (.inr (.inr h3)) hc
      · rw [h3, moreLast_snoc, e1, e2]
        rw [h3] at h2
        refine ⟨⟨Int.le_refl _, ?_, .inr ⟨i, k + m, by omega, rfl⟩⟩, ?_, ?_⟩
        · intro p hp
          dsimp only at hp
          rw [List.mem_append] at hp
          rcases hp with hp | hp
          · exact h2 p (by simp [hp])
          · obtain rfl := List.mem_singleton.1 hp
            exact PT.arg_keep (by omega)
        · dsimp only; rw [was_append, was_append]; simp [was]; omega
        · dsimp only; rw [plen_append, plen_append]; simp [plen]
theorem NOk.zero : NOk .zero := ⟨Int.le_refl _, fun p hp => by simp [NS.zero] at hp, .inl rfl⟩
theorem nrun_ok {l : List PT} (h : ∀ p ∈ l, p.arg) (s : NS) (hs : NOk s) : NOk (nrun s l) ∧ was (nrun s l).out + (nrun s l).drop = was s.out + s.drop + was l ∧ plen (nrun s l).out + (nrun s l).put.length = plen s.out + s.put.length + plen l := by
  induction l generalizing s with
  | nil => exact ⟨hs, by simp [nrun, was], by simp [nrun, plen]⟩
  | cons p l ih =>
    obtain ⟨a, b, c⟩ := step_ok hs (h p (by simp))
    obtain ⟨a2, b2, c2⟩ := ih (fun q hq => h q (by simp [hq])) _ a
    rw [nrun_cons, was, plen]
    exact ⟨a2, by omega, by omega⟩
theorem norm_ok {l : List PT} (h : ∀ p ∈ l, p.arg) : (∀ p ∈ norm l, p.arg) ∧ was (norm l) = was l ∧ plen (norm l) = plen l := by
  obtain ⟨a, b, c⟩ := nrun_ok h .zero NOk.zero
  unfold norm NS.all
  obtain ⟨f1, f2⟩ := flushP_was (nrun .zero l).put a.d
  refine ⟨?_, ?_, ?_⟩
  · intro p hp
    rw [List.mem_append] at hp
    rcases hp with hp | hp
    · exact a.a p hp
    · exact flushP_arg _ _ p hp
  · rw [was_append, f1, b]; simp [NS.zero, was]
  · rw [plen_append, f2, c]; simp [NS.zero, plen]
theorem norm_length {l : List PT} (h : ∀ p ∈ l, p.arg) : (norm l).length ≤ 3 * l.length + 2 := by
  have := (nrun_bd h l.length).1
  rw [List.take_length] at this
  have := flushP_length (nrun .zero l).put (nrun .zero l).drop
  unfold norm NS.all
  rw [List.length_append]; omega
end Go.Proofs.YtdgdajnbkfmijaaGreatDoor
/- Transform and Compose in plain Lean, byte by byte. -/
namespace Go.Proofs.YtdgdajnbkfmijaaGreatDoor
/-- A unit is a byte that is put. -/
def isPut (p : PT) : Bool := p.put ≠ []
/-- One operation's bytes over what another one makes. -/
def tr (first : Bool) : List PT → List PT → List PT
  | p :: x, q :: y =>
    if isPut p = true ∧ (first = true ∨ isPut q = false) then p :: tr first x (q :: y)
    else if isPut q = true then PT.k1 :: tr first (p :: x) y
    else if q.drop = 0 then p :: tr first x y else tr first x y
  | p :: x, [] => if isPut p = true then p :: tr first x [] else []
  | [], q :: y => if isPut q = true then PT.k1 :: tr first [] y else []
  | [], [] => []
termination_by x y => x.length + y.length
theorem isPut_byte (c : UInt8) : isPut (PT.byte c) = true := rfl
theorem isPut_d1 : isPut PT.d1 = false := rfl
theorem isPut_k1 : isPut PT.k1 = false := rfl
theorem isPut_unit (x : Bool) : isPut (unit x) = false := by cases x <;> rfl
/-- Does a list begin with what is put? -/
def hput : List PT → Bool
  | [] => false
  | p :: _ => isPut p
theorem tr_put {first : Bool} (b : U.Bs) (x y : List PT) (h : first = true ∨ hput y = false) : tr first (b.map PT.byte ++ x) y = b.map PT.byte ++ tr first x y := by
  induction b with
  | nil => rfl
  | cons c b ih =>
    simp only [List.map_cons, List.cons_append]
    cases y with
    | nil => rw [tr, if_pos (isPut_byte c), ih]
    | cons q y => rw [tr, if_pos ⟨isPut_byte c, h⟩, ih]
theorem tr_keep {first : Bool} (b : U.Bs) (x y : List PT) (h : first = false ∨ hput x = false) : tr first x (b.map PT.byte ++ y) = List.replicate b.length PT.k1 ++ tr first x y := by
  induction b with
  | nil => rfl
  | cons c b ih =>
    simp only [List.map_cons, List.cons_append, List.length_cons, List.replicate_succ]
    cases x with
    | nil => rw [tr, if_pos (isPut_byte c), ih]
    | cons p x =>
      rw [tr, if_neg, if_pos (isPut_byte c), ih]
      rintro ⟨h1, h2⟩
      rw [isPut_byte] at h2
      rcases h with h | h
      · subst h; simp at h2
      · have h' : isPut p = false := h; rw [h'] at h1; exact absurd h1 (by simp)
theorem tr_both {first : Bool} (n : Nat) (u v : Bool) (x y : List PT) : tr first (List.replicate n (unit u) ++ x) (List.replicate n (unit v) ++ y) = (if v = true then [] else List.replicate n (unit u)) ++ tr first x y := by
  induction n with
  | zero => simp
  | succ n ih =>
    simp only [List.replicate_succ, List.cons_append]
    rw [tr, if_neg (by simp [isPut_unit]), if_neg (by simp [isPut_unit]), ih]
    cases v <;> simp [unit, PT.d1, PT.k1]
/-- Gap by gap: what comes of a gap and its byte. -/
def gapOut (first : Bool) (px py : U.Bs) : List PT := if first = true then px.map PT.byte ++ List.replicate py.length PT.k1 else List.replicate py.length PT.k1 ++ px.map PT.byte
def trGaps (first : Bool) : List (U.Bs × Bool) → List (U.Bs × Bool) → U.Bs → U.Bs → List PT
  | (px, dx) :: x, (py, dy) :: y, ex, ey => gapOut first px py ++ (if dy = true then [] else [unit dx]) ++ trGaps first x y ex ey
  | _, _, ex, ey => gapOut first ex ey
theorem tr_gap {first : Bool} (px py : U.Bs) (x y : List PT) (hx : hput x = false) (hy : hput y = false) : tr first (px.map PT.byte ++ x) (py.map PT.byte ++ y) = gapOut first px py ++ tr first x y := by
  unfold gapOut
  cases first with
  | true => rw [tr_put _ _ _ (.inl rfl), tr_keep _ _ _ (.inr hx)]; simp
  | false => rw [tr_keep _ _ _ (.inl rfl), tr_put _ _ _ (.inr hy)]; simp
theorem trGaps_eq {first : Bool} {x y : List (U.Bs × Bool)} (h : x.length = y.length) (ex ey : U.Bs) : trGaps first x y ex ey = tr first (SS.exp ⟨x, ex⟩) (SS.exp ⟨y, ey⟩) := by
  induction x generalizing y with
  | nil =>
    cases y with
    | nil =>
      rw [trGaps]
      · have := tr_gap (first := first) ex ey [] [] rfl rfl
        simp only [List.append_nil] at this
        simp only [SS.exp, List.flatMap_nil, List.nil_append]
        rw [this, tr]; simp
      · simp
    | cons q y => simp at h
  | cons p x ih =>
    cases y with
    | nil => simp at h
    | cons q y =>
      obtain ⟨px, dx⟩ := p
      obtain ⟨py, dy⟩ := q
      rw [trGaps, ih (by simpa using h)]
      simp only [SS.exp, List.flatMap_cons, List.append_assoc]
      rw [tr_gap _ _ _ _ (by simp [hput, isPut_unit]) (by simp [hput, isPut_unit])]
      have := tr_both (first := first) 1 dx dy (List.flatMap (fun p => p.1.map PT.byte ++ [unit p.2]) x ++ ex.map PT.byte) (List.flatMap (fun p => p.1.map PT.byte ++ [unit p.2]) y ++ ey.map PT.byte)
      simp only [List.replicate_one] at this
      rw [this]
/-- Two operations' bytes in one. -/
def cm : List PT → List PT → List PT
  | p :: x, q :: y =>
    if 0 < p.drop then p :: cm x (q :: y)
    else if isPut q = true then q :: cm (p :: x) y
    else if isPut p = true then (if 0 < q.keep then [p] else []) ++ cm x y
    else (if 0 < q.keep then [PT.k1] else [PT.d1]) ++ cm x y
  | p :: x, [] => if 0 < p.drop then p :: cm x [] else []
  | [], q :: y => if isPut q = true then q :: cm [] y else []
  | [], [] => []
termination_by x y => x.length + y.length
/-- Does a list begin with what is dropped? -/
def hdrop : List PT → Prop
  | [] => False
  | p :: _ => 0 < p.drop
theorem cm_drop (n : Nat) (x y : List PT) : cm (List.replicate n PT.d1 ++ x) y = List.replicate n PT.d1 ++ cm x y := by
  induction n with
  | zero => rfl
  | succ n ih =>
    simp only [List.replicate_succ, List.cons_append]
    cases y with
    | nil => rw [cm, if_pos (by decide), ih]
    | cons q y => rw [cm, if_pos (by decide), ih]
theorem cm_put (b : U.Bs) (x y : List PT) (h : ¬ hdrop x) : cm x (b.map PT.byte ++ y) = b.map PT.byte ++ cm x y := by
  induction b with
  | nil => rfl
  | cons c b ih =>
    simp only [List.map_cons, List.cons_append]
    cases x with
    | nil => rw [cm, if_pos (isPut_byte c), ih]
    | cons p x => rw [cm, if_neg (show ¬ 0 < p.drop from h), if_pos (isPut_byte c), ih]
theorem cm_pk (b : U.Bs) (v : Bool) (x y : List PT) : cm (b.map PT.byte ++ x) (List.replicate b.length (unit v) ++ y) = (if v = true then [] else b.map PT.byte) ++ cm x y := by
  induction b with
  | nil => cases v <;> rfl
  | cons c b ih =>
    simp only [List.map_cons, List.cons_append, List.length_cons, List.replicate_succ]
    rw [cm, if_neg (by simp [PT.byte]), if_neg (by simp [isPut_unit]), if_pos (isPut_byte c), ih]
    cases v <;> simp [unit, PT.k1, PT.d1]
theorem cm_kk (n : Nat) (v : Bool) (x y : List PT) : cm (List.replicate n PT.k1 ++ x) (List.replicate n (unit v) ++ y) = List.replicate n (unit v) ++ cm x y := by
  induction n with
  | zero => rfl
  | succ n ih =>
    simp only [List.replicate_succ, List.cons_append]
    rw [cm, if_neg (by decide), if_neg (by simp [isPut_unit]), if_neg (by simp [isPut_k1]), ih]
    cases v <;> simp [unit, PT.k1, PT.d1]
/-- A byte of what comes: of the text (its number), or put (-1). -/
structure Cl where
  from_ : Int
  c : UInt8
/-- The bytes of what an operation makes, from number at on. -/
def mcells (at_ : Nat) : List PT → List Cl
  | [] => []
  | p :: l => if isPut p = true then p.put.map (fun c => ⟨-1, c⟩) ++ mcells at_ l else if 0 < p.drop then mcells (at_ + 1) l else ⟨at_, 0⟩ :: mcells (at_ + 1) l
/-- What a second operation makes of these. -/
def ecells : List PT → List Cl → List Cl
  | [], _ => []
  | q :: y, ms => if isPut q = true then q.put.map (fun c => ⟨-1, c⟩) ++ ecells y ms else match ms with
    | [] => []
    | m :: ms => if 0 < q.keep then m :: ecells y ms else ecells y ms
theorem ecells_put {q : PT} (h : isPut q = true) (y : List PT) (ms : List Cl) : ecells (q :: y) ms = q.put.map (fun c => ⟨-1, c⟩) ++ ecells y ms := by
  cases ms <;> simp [ecells, h]
theorem ecells_cons {q : PT} (h : ¬ isPut q = true) (y : List PT) (m : Cl) (ms : List Cl) : ecells (q :: y) (m :: ms) = if 0 < q.keep then m :: ecells y ms else ecells y ms := by
  simp [ecells, h]
/-- All of a list are single bytes. -/
def Unit1 (p : PT) : Prop := (∃ c, p = PT.byte c) ∨ p = PT.d1 ∨ p = PT.k1
theorem exp_unit1 {p : PT} : ∀ q ∈ p.exp, Unit1 q := by
  intro q hq
  unfold PT.exp at hq
  split at hq
  · obtain ⟨c, _, rfl⟩ := List.mem_map.1 hq; exact .inl ⟨c, rfl⟩
  · split at hq
    · exact .inr (.inl (List.eq_of_mem_replicate hq))
    · exact .inr (.inr (List.eq_of_mem_replicate hq))
theorem expand_unit1 {l : List PT} : ∀ q ∈ expand l, Unit1 q := by
  intro q hq
  unfold expand at hq
  obtain ⟨p, _, h⟩ := List.mem_flatMap.1 hq
  exact exp_unit1 q h
/-- How many bytes units take of the text, and make. -/
def uwas : List PT → Nat
  | [] => 0
  | p :: l => (if isPut p = true then 0 else 1) + uwas l
def ucomes : List PT → Nat
  | [] => 0
  | p :: l => (if 0 < p.drop then 0 else 1) + ucomes l
theorem cm_cells {x y : List PT} (hx : ∀ p ∈ x, Unit1 p) (hy : ∀ p ∈ y, Unit1 p) (h : ucomes x = uwas y) (at_ : Nat) : mcells at_ (cm x y) = ecells y (mcells at_ x) ∧ uwas (cm x y) = uwas x ∧ ∀ p ∈ cm x y, Unit1 p := by
  induction x, y using cm.induct generalizing at_ with
  | case1 p x q y hd ih =>
    rw [cm, if_pos hd]
    obtain rfl : p = PT.d1 := by
      rcases hx p (by simp) with ⟨c, rfl⟩ | h | rfl
      · simp [PT.byte] at hd
      · exact h
      · simp [PT.k1] at hd
    obtain ⟨h1, h2, h3⟩ := ih (fun p hp => hx p (by simp [hp])) hy (by simpa [ucomes, PT.d1] using h) (at_ + 1)
    refine ⟨?_, ?_, ?_⟩
    · rw [mcells, if_neg (by simp [isPut_d1]), if_pos (by decide), h1, mcells, if_neg (by simp [isPut_d1]), if_pos (by decide)]
    · rw [uwas, uwas, h2]
    · intro p hp
      rcases List.mem_cons.1 hp with rfl | hp
      · exact .inr (.inl rfl)
      · exact h3 p hp
  | case2 p x q y hd hq ih =>
    rw [cm, if_neg hd, if_pos hq]
    obtain ⟨c, rfl⟩ : ∃ c, q = PT.byte c := by
      rcases hy q (by simp) with h | rfl | rfl
      · exact h
      · simp [isPut_d1] at hq
      · simp [isPut_k1] at hq
    obtain ⟨h1, h2, h3⟩ := ih hx (fun p hp => hy p (by simp [hp])) (by rw [h, uwas, if_pos hq]; omega) at_
    refine ⟨?_, ?_, ?_⟩
    · simp only [mcells, if_pos hq]; rw [h1, ecells_put hq]; rfl
    · simp only [uwas, if_pos hq]; rw [h2]; simp [uwas]
    · intro p hp
      rcases List.mem_cons.1 hp with rfl | hp
      · exact .inl ⟨c, rfl⟩
      · exact h3 p hp
  | case3 p x q y hd hq hp ih =>
    rw [cm, if_neg hd, if_neg hq, if_pos hp]
    obtain ⟨c, rfl⟩ : ∃ c, p = PT.byte c := by
      rcases hx p (by simp) with h | rfl | rfl
      · exact h
      · simp [isPut_d1] at hp
      · simp [isPut_k1] at hp
    obtain ⟨h1, h2, h3⟩ := ih (fun p hp => hx p (by simp [hp])) (fun p hp => hy p (by simp [hp])) (by simp only [ucomes, uwas, if_neg hd, if_neg hq] at h; omega) at_
    have e : mcells at_ (PT.byte c :: x) = ⟨-1, c⟩ :: mcells at_ x := by rw [mcells, if_pos hp]; rfl
    rw [e, ecells_cons hq]
    by_cases hk : 0 < q.keep
    · simp only [if_pos hk, List.singleton_append]
      refine ⟨?_, ?_, ?_⟩
      · rw [mcells, if_pos hp, h1]; rfl
      · rw [uwas, if_pos hp, h2, uwas, if_pos hp]
      · intro p hp
        rcases List.mem_cons.1 hp with rfl | hp
        · exact .inl ⟨c, rfl⟩
        · exact h3 p hp
    · simp only [if_neg hk, List.nil_append]
      exact ⟨h1, by rw [h2, uwas, if_pos hp]; omega, h3⟩
  | case4 p x q y hd hq hp ih =>
    rw [cm, if_neg hd, if_neg hq, if_neg hp]
    obtain rfl : p = PT.k1 := by
      rcases hx p (by simp) with ⟨c, rfl⟩ | rfl | h
      · simp [isPut_byte] at hp
      · simp [PT.d1] at hd
      · exact h
    obtain ⟨h1, h2, h3⟩ := ih (fun p hp => hx p (by simp [hp])) (fun p hp => hy p (by simp [hp])) (by simp only [ucomes, uwas, if_neg hd, if_neg hq] at h; omega) (at_ + 1)
    have e : mcells at_ (PT.k1 :: x) = ⟨at_, 0⟩ :: mcells (at_ + 1) x := by rw [mcells, if_neg hp, if_neg hd]
    rw [e, ecells_cons hq]
    by_cases hk : 0 < q.keep
    · simp only [if_pos hk, List.singleton_append]
      refine ⟨?_, ?_, ?_⟩
      · rw [mcells, if_neg hp, if_neg hd, h1]
      · rw [uwas, h2, uwas]
      · intro p hp
        rcases List.mem_cons.1 hp with rfl | hp
        · exact .inr (.inr rfl)
        · exact h3 p hp
    · simp only [if_neg hk, List.singleton_append]
      refine ⟨?_, ?_, ?_⟩
      · rw [mcells, if_neg (by simp [isPut_d1]), if_pos (by decide), h1]
      · rw [uwas, h2, uwas]; rfl
      · intro p hp
        rcases List.mem_cons.1 hp with rfl | hp
        · exact .inr (.inl rfl)
        · exact h3 p hp
  | case5 p x hd ih =>
    rw [cm, if_pos hd]
    obtain rfl : p = PT.d1 := by
      rcases hx p (by simp) with ⟨c, rfl⟩ | h | rfl
      · simp [PT.byte] at hd
      · exact h
      · simp [PT.k1] at hd
    obtain ⟨h1, h2, h3⟩ := ih (fun p hp => hx p (by simp [hp])) hy (by simpa [ucomes, PT.d1] using h) (at_ + 1)
    refine ⟨?_, ?_, ?_⟩
    · rw [mcells, if_neg (by simp [isPut_d1]), if_pos (by decide), h1]; rfl
    · rw [uwas, uwas, h2]
    · intro p hp
      rcases List.mem_cons.1 hp with rfl | hp
      · exact .inr (.inl rfl)
      · exact h3 p hp
  | case6 p x hd => simp [ucomes, uwas, if_neg hd] at h
  | case7 q y hq ih =>
    rw [cm, if_pos hq]
    obtain ⟨c, rfl⟩ : ∃ c, q = PT.byte c := by
      rcases hy q (by simp) with h | rfl | rfl
      · exact h
      · simp [isPut_d1] at hq
      · simp [isPut_k1] at hq
    obtain ⟨h1, h2, h3⟩ := ih hx (fun p hp => hy p (by simp [hp])) (by rw [h, uwas, if_pos hq]; omega) at_
    refine ⟨?_, ?_, ?_⟩
    · simp only [mcells, if_pos hq]; rw [h1, ecells_put hq]; rfl
    · simp only [uwas, if_pos hq]; rw [h2]; simp [uwas]
    · intro p hp
      rcases List.mem_cons.1 hp with rfl | hp
      · exact .inl ⟨c, rfl⟩
      · exact h3 p hp
  | case8 q y hq => simp only [ucomes, uwas, if_neg hq] at h; omega
  | case9 => rw [cm]; exact ⟨rfl, rfl, fun p hp => by simp at hp⟩
/-- The gaps behind one cell more; at the end. -/
def SS.cell (s : SS) (x : Cl) : SS := if x.from_ < 0 then ⟨s.l, s.e ++ [x.c]⟩ else SS.take false 1 (SS.take true (x.from_.toNat - s.l.length) s)
def SS.full (n : Nat) (s : SS) : SS := SS.take true (n - s.l.length) s
def gaps (n : Nat) (l : List Cl) : SS := (l.foldl SS.cell .zero).full n
theorem SS.take_len (x : Bool) (k : Nat) (s : SS) : (SS.take x k s).l.length = s.l.length + k := by
  induction k generalizing s with
  | zero => rfl
  | succ k ih => rw [SS.take, ih]; simp; omega
theorem nrun_comm (s : NS) (k : Nat) (c : UInt8) : nrun (nrun s (List.replicate k PT.d1)) [PT.byte c] = nrun (nrun s [PT.byte c]) (List.replicate k PT.d1) := by
  have h := fun s : NS => nrun_bytes s [c]
  simp only [List.map_cons, List.map_nil] at h
  rw [h, h, nrun_d1, nrun_d1]
theorem gaps_run {u : List PT} (hu : ∀ p ∈ u, Unit1 p) (s : SS) (at_ : Nat) (h : s.l.length ≤ at_) :
    nrun .zero (((mcells at_ u).foldl SS.cell s).full (at_ + uwas u)).exp = nrun (nrun (nrun .zero s.exp) (List.replicate (at_ - s.l.length) PT.d1)) u := by
  induction u generalizing s at_ with
  | nil =>
    simp only [mcells, List.foldl_nil, uwas, Nat.add_zero, SS.full]
    rw [SS.exp_take, nrun_append]; rfl
  | cons p u ih =>
    have hu' : ∀ p ∈ u, Unit1 p := fun q hq => hu q (by simp [hq])
    rcases hu p (by simp) with ⟨c, rfl⟩ | rfl | rfl
    · rw [mcells, if_pos (isPut_byte c), uwas, if_pos (isPut_byte c), Nat.zero_add]
      simp only [PT.byte, List.map_cons, List.map_nil, List.singleton_append, List.foldl_cons]
      have e : SS.cell s ⟨-1, c⟩ = ⟨s.l, s.e ++ [c]⟩ := by unfold SS.cell; rw [if_pos (show (-1 : Int) < 0 by decide)]
      rw [e, ih hu' ⟨s.l, s.e ++ [c]⟩ at_ h]
      have e2 : (⟨s.l, s.e ++ [c]⟩ : SS).exp = s.exp ++ [PT.byte c] := by simp [SS.exp]
      rw [e2, nrun_append, nrun_cons]
      change nrun (nrun (nrun _ [PT.byte c]) _) u = nrun (nrun (nrun _ _) [PT.byte c]) u
      rw [nrun_comm]
    · rw [mcells, if_neg (by simp [isPut_d1]), if_pos (by decide), uwas, if_neg (by simp [isPut_d1]), ← Nat.add_assoc, ih hu' s (at_ + 1) (by omega), nrun_cons,
        show at_ + 1 - s.l.length = (at_ - s.l.length) + 1 from by omega, List.replicate_succ', nrun_append]
      rfl
    · rw [mcells, if_neg (by simp [isPut_k1]), if_neg (by decide), uwas, if_neg (by simp [isPut_k1]), ← Nat.add_assoc, List.foldl_cons]
      have e : SS.cell s ⟨at_, 0⟩ = SS.take false 1 (SS.take true (at_ - s.l.length) s) := by
        unfold SS.cell
        rw [if_neg (by simp)]
        simp
      have hl : (SS.take false 1 (SS.take true (at_ - s.l.length) s)).l.length = at_ + 1 := by rw [SS.take_len, SS.take_len]; omega
      rw [e, ih hu' _ (at_ + 1) (by omega), hl, SS.exp_take, SS.exp_take, Nat.sub_self, nrun_append, nrun_append, nrun_cons]
      rfl
/-- The document's composition, as gaps, is Norm of the bytes. -/
theorem gaps_eq {u : List PT} (hu : ∀ p ∈ u, Unit1 p) : gather (gaps (uwas u) (mcells 0 u)) = (nrun .zero u).all := by
  have h := gaps_run hu .zero 0 (by simp [SS.zero])
  rw [Nat.zero_add] at h
  rw [gather_eq, gaps, h]; rfl
end Go.Proofs.YtdgdajnbkfmijaaGreatDoor
/- A rope's tree, plainly: what add, take and find do to the row of chunks. -/
namespace Go.Proofs.YtdgdajnbkfmijaaGreatDoor
/-- Bytes of runes. -/
def bl (rs : List Int) : Nat := (U.encs rs).length
theorem cnt_b (rs : List Int) : (cnt rs).b = (bl rs : Int) := by rw [(cnt_in rs).2.1, U.off_full]; rfl
@[simp] theorem bl_nil : bl [] = 0 := rfl
@[simp] theorem bl_append (a b : List Int) : bl (a ++ b) = bl a + bl b := by unfold bl; rw [U.encs_append, List.length_append]
theorem bl_len (rs : List Int) : rs.length ≤ bl rs := by have := U.len_le_off rs; rwa [U.off_full] at this
theorem bl_pos {rs : List Int} (h : rs ≠ []) : 0 < bl rs := by
  have := bl_len rs
  have := List.length_pos_iff.2 h
  omega
namespace RT
def chunks (t : RT) : List (List Int) := t.nodes.map Prod.snd
@[simp] theorem chunks_nil : nil.chunks = [] := rfl
@[simp] theorem chunks_node (g : Nat) (rs : List Int) (l r : RT) : (node g rs l r).chunks = l.chunks ++ rs :: r.chunks := by simp [chunks]
theorem runes_chunks (t : RT) : t.runes = t.chunks.flatten := by rw [runes_nodes, chunks, List.flatMap_def]
theorem len_chunks (t : RT) : t.chunks.length = t.nodes.length := by simp [chunks]
theorem len_blocks (t : RT) : t.blocks.length = t.nodes.length := by simp [blocks]
def isNil : RT → Bool
  | nil => true
  | _ => false
theorem isNil_iff {t : RT} : t.isNil = true ↔ t = nil := by cases t <;> simp [isNil]
theorem chunks_lvl (g : Nat) (rs : List Int) (l r : RT) : (lvl g rs l r).chunks = l.chunks ++ rs :: r.chunks := by simp [chunks, nodes_lvl]
theorem blocks_lvl (g : Nat) (rs : List Int) (l r : RT) : (lvl g rs l r).blocks = l.blocks ++ g :: r.blocks := by simp [blocks, nodes_lvl]
def addT (x : RT) : RT → Nat → RT
  | nil, _ => x
  | node g rs l r, k => if k ≤ bl l.runes then lvl g rs (addT x l k) r else lvl g rs l (addT x r (k - bl l.runes - bl rs))
def first : RT → List Int
  | nil => []
  | node _ rs l _ => if l.isNil then rs else l.first
def takeT : RT → Nat → RT
  | nil, _ => nil
  | node g rs l r, k =>
    if k < bl l.runes then lvl g rs (takeT l k) r
    else if bl l.runes < k then lvl g rs l (takeT r (k - bl l.runes - bl rs))
    else if l.isNil then r else if r.isNil then l else lvl g r.first l (takeT r 0)
def findT : RT → Nat → Nat → List Int × Nat
  | nil, _, _ => ([], 0)
  | node _ rs l r, k, f => if k < f + bl l.runes then findT l k f else if k < f + bl l.runes + bl rs ∨ r.isNil = true then (rs, f + bl l.runes) else findT r k (f + bl l.runes + bl rs)
end RT
/-- No chunk is empty. -/
def Ne (cs : List (List Int)) : Prop := ∀ c ∈ cs, c ≠ []
theorem Ne.l {a b : List (List Int)} (h : Ne (a ++ b)) : Ne a := fun c hc => h c (List.mem_append_left _ hc)
theorem Ne.r {a b : List (List Int)} (h : Ne (a ++ b)) : Ne b := fun c hc => h c (List.mem_append_right _ hc)
theorem Ne.tl {c : List Int} {b : List (List Int)} (h : Ne (c :: b)) : Ne b := fun x hx => h x (List.mem_cons_of_mem _ hx)
theorem Ne.hd {c : List Int} {b : List (List Int)} (h : Ne (c :: b)) : c ≠ [] := h c (by simp)
theorem Ne.app {a b : List (List Int)} (h : Ne a) (k : Ne b) : Ne (a ++ b) := fun c hc => (List.mem_append.1 hc).elim (h c) (k c)
/-- Bytes of chunks. -/
def cb (cs : List (List Int)) : Nat := bl cs.flatten
@[simp] theorem cb_nil : cb [] = 0 := rfl
@[simp] theorem cb_append (a b : List (List Int)) : cb (a ++ b) = cb a + cb b := by simp [cb]
@[simp] theorem cb_cons (c : List Int) (b : List (List Int)) : cb (c :: b) = bl c + cb b := by simp [cb]
theorem cb_runes (t : RT) : cb t.chunks = bl t.runes := by rw [cb, RT.runes_chunks]
/-- Where a row made of two and one between is cut. -/
theorem split3 {α : Type} {l r a b : List α} {x : α} (h : l ++ x :: r = a ++ b) : (∃ c, l = a ++ c ∧ b = c ++ x :: r) ∨ (∃ c, a = l ++ x :: c ∧ r = c ++ b) := by
  rcases List.append_eq_append_iff.1 h with ⟨c, h1, h2⟩ | ⟨c, h1, h2⟩
  · cases c with
    | nil => exact .inl ⟨[], by simpa using h1.symm, by simpa using h2.symm⟩
    | cons y c =>
      simp only [List.cons_append, List.cons.injEq] at h2
      obtain ⟨rfl, h3⟩ := h2
      exact .inr ⟨c, h1, h3⟩
  · exact .inl ⟨c, h1, h2⟩
namespace RT
/-- A chunk is put where chunks meet. -/
theorem addT_nodes {x : RT} {t : RT} {k : Nat} {a b : List (Nat × List Int)} (hne : Ne t.chunks) (h : t.nodes = a ++ b) (hk : bl (a.flatMap Prod.snd) = k) : (addT x t k).nodes = a ++ x.nodes ++ b := by
  induction t generalizing k a b with
  | nil =>
    obtain ⟨rfl, rfl⟩ := List.append_eq_nil_iff.1 h.symm
    simp [addT]
  | node g rs l r ihl ihr =>
    simp only [nodes_node] at h
    simp only [chunks_node] at hne
    unfold addT
    rcases split3 h with ⟨c, h1, rfl⟩ | ⟨c, rfl, h2⟩
    · have : k ≤ bl l.runes := by rw [runes_nodes, h1, List.flatMap_append, bl_append]; omega
      rw [if_pos this, nodes_lvl, ihl hne.l h1 hk]
      simp
    · have := bl_pos hne.r.hd
      have e : bl ((l.nodes ++ (g, rs) :: c).flatMap Prod.snd) = bl l.runes + (bl rs + bl (c.flatMap Prod.snd)) := by
        rw [List.flatMap_append, bl_append, ← runes_nodes, List.flatMap_cons, bl_append]
      rw [if_neg (by omega), nodes_lvl, ihr (a := c) hne.r.tl h2 (by omega)]
      simp
theorem takeT_sub (t : RT) (k : Nat) : (takeT t k).blocks.Sublist t.blocks := by
  induction t generalizing k with
  | nil => exact List.Sublist.refl _
  | node g rs l r ihl ihr =>
    unfold takeT
    rw [blocks_node]
    split
    · rw [blocks_lvl]; exact (ihl _).append_right _
    · split
      · rw [blocks_lvl]; exact ((ihr _).cons_cons _).append_left _
      · split
        · rename_i h; obtain rfl := isNil_iff.1 h; exact List.sublist_cons_self _ _
        · split
          · exact List.sublist_append_left _ _
          · rw [blocks_lvl]; exact ((ihr _).cons_cons _).append_left _
theorem first_chunks {t : RT} (h : t ≠ nil) : ∃ b, t.chunks = t.first :: b := by
  induction t with
  | nil => exact absurd rfl h
  | node g rs l r ihl ihr =>
    unfold first
    split
    · rename_i h1; obtain rfl := isNil_iff.1 h1; exact ⟨_, rfl⟩
    · rename_i h1
      obtain ⟨b, e⟩ := ihl (fun e => h1 (isNil_iff.2 e))
      exact ⟨b ++ rs :: r.chunks, by rw [chunks_node, e]; rfl⟩
/-- The chunk that begins at a place is taken out. -/
theorem takeT_chunks {t : RT} {k : Nat} {a b : List (List Int)} {c : List Int} (hne : Ne t.chunks) (h : t.chunks = a ++ c :: b) (hk : cb a = k) : (takeT t k).chunks = a ++ b := by
  induction t generalizing k a b c with
  | nil => simp at h
  | node g rs l r ihl ihr =>
    simp only [chunks_node] at h hne
    unfold takeT
    have hrs := bl_pos hne.r.hd
    rcases split3 h with ⟨d, h1, h2⟩ | ⟨d, rfl, h2⟩
    · cases d with
      | nil =>
        simp only [List.append_nil] at h1
        simp only [List.nil_append, List.cons.injEq] at h2
        obtain ⟨rfl, rfl⟩ := h2
        have e : bl l.runes = k := by rw [← cb_runes, h1]; exact hk
        rw [if_neg (by omega), if_neg (by omega)]
        split
        · rename_i h3; obtain rfl := isNil_iff.1 h3; simp at h1; subst h1; rfl
        · split
          · rename_i h3; obtain rfl := isNil_iff.1 h3; simp [h1]
          · rename_i h3
            obtain ⟨f, ef⟩ := first_chunks (t := r) (fun e => h3 (isNil_iff.2 e))
            rw [chunks_lvl, ihr (k := 0) (a := []) hne.r.tl ef rfl, h1, ef]; rfl
      | cons y d =>
        simp only [List.cons_append, List.cons.injEq] at h2
        obtain ⟨rfl, rfl⟩ := h2
        have hc : 0 < bl c := bl_pos (hne c (by rw [h1]; simp))
        have e : bl l.runes = k + (bl c + cb d) := by rw [← cb_runes, h1]; simp [hk]
        rw [if_pos (by omega), chunks_lvl, ihl hne.l h1 hk]
        simp
    · have e : cb (l.chunks ++ rs :: d) = bl l.runes + (bl rs + cb d) := by rw [cb_append, cb_cons, cb_runes]
      rw [if_neg (by omega), if_pos (by omega), chunks_lvl, ihr (a := d) hne.r.tl h2 (by omega)]
      simp
theorem findT_chunks {t : RT} {k f : Nat} (hne : Ne t.chunks) (ht : t ≠ nil) (hf : f ≤ k) : ∃ a c b, t.chunks = a ++ c :: b ∧ findT t k f = (c, f + cb a) ∧ f + cb a ≤ k ∧ (k < f + cb a + bl c ∨ b = []) := by
  induction t generalizing f with
  | nil => exact absurd rfl ht
  | node g rs l r ihl ihr =>
    simp only [chunks_node] at hne ⊢
    unfold findT
    split
    · rename_i h1
      have hl : l ≠ nil := by rintro rfl; simp at h1; omega
      obtain ⟨a, c, b, e1, e2, e3, e4⟩ := ihl hne.l hl hf
      refine ⟨a, c, b ++ rs :: r.chunks, by rw [e1]; simp, e2, e3, ?_⟩
      rcases e4 with e4 | rfl
      · exact .inl e4
      · left
        have := cb_runes l
        rw [e1] at this
        simp at this
        omega
    · split
      · rename_i h1 h2
        refine ⟨l.chunks, rs, r.chunks, rfl, by rw [cb_runes], by rw [cb_runes]; omega, ?_⟩
        rcases h2 with h2 | h2
        · left; rw [cb_runes]; exact h2
        · right; obtain rfl := isNil_iff.1 h2; rfl
      · rename_i h1 h2
        have hr : r ≠ nil := fun e => h2 (.inr (isNil_iff.2 e))
        obtain ⟨a, c, b, e1, e2, e3, e4⟩ := ihr hne.r.tl hr (f := f + bl l.runes + bl rs) (by omega)
        refine ⟨l.chunks ++ rs :: a, c, b, by rw [e1]; simp, ?_, ?_, ?_⟩
        · rw [e2, cb_append, cb_cons, cb_runes]; congr 1; omega
        · rw [cb_append, cb_cons, cb_runes]; omega
        · rw [cb_append, cb_cons, cb_runes]
          rcases e4 with e4 | e4
          · left; omega
          · exact .inr e4
end RT
end Go.Proofs.YtdgdajnbkfmijaaGreatDoor
/- Where runes begin in their bytes; how a text is cut into chunks. Plain. -/
namespace Go.Proofs.YtdgdajnbkfmijaaGreatDoor
/-- The byte there is none within a rune, or it is the end. -/
def redg (s : U.Bs) (a : Nat) : Bool := decide (a = s.length) || !(U.cont (s.getD a 0))
theorem by8_cont {n : Int} (h : 0 ≤ n) (h2 : n < 256) : U.cont (U.by8 n) = decide (128 ≤ n ∧ n < 192) := by
  have := U.by8_toNat h h2
  unfold U.cont
  congr 1
  apply propext
  omega
theorem enc_cont {r : Int} (h : U.right r = true) {i : Nat} (hi : i < U.wid r) (t : U.Bs) : U.cont ((U.enc r ++ t).getD i 0) = decide (0 < i) := by
  have hr := U.right_iff.1 h
  unfold U.wid at hi
  unfold U.enc
  split
  · rename_i h1
    rw [if_pos h1] at hi
    obtain rfl : i = 0 := by omega
    show U.cont (U.by8 r) = _
    rw [by8_cont (by omega) (by omega), decide_eq_false (by omega)]; rfl
  · rename_i h1
    rw [if_neg h1] at hi
    split
    · rename_i h2
      rw [if_pos h2] at hi
      obtain rfl | rfl : i = 0 ∨ i = 1 := by omega
      · show U.cont (U.by8 _) = _
        rw [by8_cont (by omega) (by omega), decide_eq_false (by omega)]; rfl
      · show U.cont (U.by8 _) = _
        rw [by8_cont (by omega) (by omega), decide_eq_true (by omega)]; rfl
    · rename_i h2
      rw [if_neg h2] at hi
      split
      · rename_i h3
        rw [if_pos h3] at hi
        obtain rfl | rfl | rfl : i = 0 ∨ i = 1 ∨ i = 2 := by omega
        · show U.cont (U.by8 _) = _
          rw [by8_cont (by omega) (by omega), decide_eq_false (by omega)]; rfl
        · show U.cont (U.by8 _) = _
          rw [by8_cont (by omega) (by omega), decide_eq_true (by omega)]; rfl
        · show U.cont (U.by8 _) = _
          rw [by8_cont (by omega) (by omega), decide_eq_true (by omega)]; rfl
      · rename_i h3
        rw [if_neg h3] at hi
        obtain rfl | rfl | rfl | rfl : i = 0 ∨ i = 1 ∨ i = 2 ∨ i = 3 := by omega
        · show U.cont (U.by8 _) = _
          rw [by8_cont (by omega) (by omega), decide_eq_false (by omega)]; rfl
        · show U.cont (U.by8 _) = _
          rw [by8_cont (by omega) (by omega), decide_eq_true (by omega)]; rfl
        · show U.cont (U.by8 _) = _
          rw [by8_cont (by omega) (by omega), decide_eq_true (by omega)]; rfl
        · show U.cont (U.by8 _) = _
          rw [by8_cont (by omega) (by omega), decide_eq_true (by omega)]; rfl
theorem bl_cons (r : Int) (rs : List Int) : bl (r :: rs) = U.wid r + bl rs := by unfold bl; rw [U.encs_cons, List.length_append, U.enc_length]
/-- A place is none within a rune where runes are cut. -/
theorem redg_iff {rs : List Int} (h : U.AllR rs) {a : Nat} (ha : a ≤ bl rs) : redg (U.encs rs) a = true ↔ ∃ p q, rs = p ++ q ∧ bl p = a := by
  induction rs generalizing a with
  | nil =>
    simp at ha
    subst ha
    exact ⟨fun _ => ⟨[], [], rfl, rfl⟩, fun _ => rfl⟩
  | cons r rs ih =>
    have hr := h r (by simp)
    have hw := U.wid_pos r
    have hrs : U.AllR rs := fun x hx => h x (by simp [hx])
    rw [bl_cons] at ha
    by_cases h0 : a < U.wid r
    · have e : redg (U.encs (r :: rs)) a = !decide (0 < a) := by
        unfold redg
        have hl : a ≠ (U.encs (r :: rs)).length := by have := bl_cons r rs; unfold bl at this; omega
        rw [decide_eq_false hl, U.encs_cons, enc_cont hr h0]; simp
      rw [e]
      constructor
      · intro hh
        have : a = 0 := by simpa using hh
        exact ⟨[], r :: rs, rfl, this.symm⟩
      · rintro ⟨p, q, hp, hb⟩
        cases p with
        | nil => simp at hb; simp [← hb]
        | cons y p =>
          simp only [List.cons_append, List.cons.injEq] at hp
          rw [bl_cons, ← hp.1] at hb
          omega
    · have e : redg (U.encs (r :: rs)) a = redg (U.encs rs) (a - U.wid r) := by
        unfold redg
        rw [U.encs_cons, List.length_append, U.enc_length]
        have e1 : (U.enc r ++ U.encs rs).getD a 0 = (U.encs rs).getD (a - U.wid r) 0 := by
          rw [List.getD_eq_getElem?_getD, List.getD_eq_getElem?_getD, List.getElem?_append_right (by rw [U.enc_length]; omega), U.enc_length]
        rw [e1]
        congr 1
        rw [decide_eq_decide]
        omega
      rw [e, ih hrs (by omega)]
      constructor
      · rintro ⟨p, q, rfl, hb⟩
        exact ⟨r :: p, q, rfl, by rw [bl_cons]; omega⟩
      · rintro ⟨p, q, hp, hb⟩
        cases p with
        | nil => simp at hb; omega
        | cons y p =>
          simp only [List.cons_append, List.cons.injEq] at hp
          obtain ⟨rfl, rfl⟩ := hp
          rw [bl_cons] at hb
          exact ⟨p, q, rfl, by omega⟩
/-- As much of runes as so many bytes hold. -/
def fill : List Int → Nat → List Int
  | [], _ => []
  | r :: rs, k => if U.wid r ≤ k then r :: fill rs (k - U.wid r) else []
theorem fill_pre (rs : List Int) (k : Nat) : ∃ q, rs = fill rs k ++ q := by
  induction rs generalizing k with
  | nil => exact ⟨[], rfl⟩
  | cons r rs ih =>
    unfold fill
    split
    · obtain ⟨q, e⟩ := ih (k - U.wid r)
      exact ⟨q, by rw [List.cons_append, ← e]⟩
    · exact ⟨r :: rs, rfl⟩
theorem fill_le (rs : List Int) (k : Nat) : bl (fill rs k) ≤ k := by
  induction rs generalizing k with
  | nil => simp [fill]
  | cons r rs ih =>
    unfold fill
    split
    · rw [bl_cons]; have := ih (k - U.wid r); omega
    · simp
/-- .. and no more of it. -/
theorem fill_max {rs p q : List Int} {k : Nat} (h : rs = p ++ q) (hk : bl p ≤ k) : bl p ≤ bl (fill rs k) := by
  induction rs generalizing p k with
  | nil =>
    obtain ⟨rfl, rfl⟩ := List.append_eq_nil_iff.1 h.symm
    simp
  | cons r rs ih =>
    cases p with
    | nil => simp
    | cons y p =>
      simp only [List.cons_append, List.cons.injEq] at h
      obtain ⟨rfl, h2⟩ := h
      rw [bl_cons] at hk
      unfold fill
      rw [if_pos (by omega), bl_cons, bl_cons]
      have := ih h2 (k := k - U.wid r) (by omega)
      omega
theorem fill_ne {rs : List Int} {k : Nat} (h : rs ≠ []) (hk : 4 ≤ k) : fill rs k ≠ [] := by
  cases rs with
  | nil => exact absurd rfl h
  | cons r rs =>
    unfold fill
    rw [if_pos (by have := U.wid_le r; omega)]
    simp
theorem fill_drop (rs : List Int) (k : Nat) : rs = fill rs k ++ rs.drop (fill rs k).length := by
  obtain ⟨q, e⟩ := fill_pre rs k
  have : rs.drop (fill rs k).length = q := by
    conv => lhs; rw [e]
    have : fill (fill rs k ++ q) k = fill rs k := by rw [← e]
    rw [this, List.drop_left]
  rw [this]; exact e
/-- The chunks of a text. -/
def cutR (rs : List Int) : List (List Int) :=
  if _h : 32 < bl rs then fill rs 32 :: cutR (rs.drop (fill rs 32).length) else if rs = [] then [] else [rs]
termination_by rs.length
decreasing_by
  have hne : rs ≠ [] := by rintro rfl; simp at _h
  have := List.length_pos_iff.2 (fill_ne hne (k := 32) (by omega))
  have := List.length_pos_iff.2 hne
  rw [List.length_drop]; omega
theorem cutR_flatten (rs : List Int) : (cutR rs).flatten = rs := by
  generalize hn : rs.length = n
  induction n using Nat.strongRecOn generalizing rs with
  | _ n ih =>
    unfold cutR
    split
    · rename_i h
      have hne : rs ≠ [] := by rintro rfl; simp at h
      have := List.length_pos_iff.2 (fill_ne hne (k := 32) (by omega))
      have := List.length_pos_iff.2 hne
      rw [List.flatten_cons, ih (rs.drop (fill rs 32).length).length (by rw [List.length_drop]; omega) _ rfl, ← fill_drop]
    · split
      · rename_i h; rw [h]; rfl
      · simp
theorem cutR_mem {rs c : List Int} (h : c ∈ cutR rs) : c ≠ [] ∧ bl c ≤ 32 := by
  generalize hn : rs.length = n
  induction n using Nat.strongRecOn generalizing rs with
  | _ n ih =>
    unfold cutR at h
    split at h
    · rename_i h1
      have hne : rs ≠ [] := by rintro rfl; simp at h1
      have hf := fill_ne hne (k := 32) (by omega)
      have := List.length_pos_iff.2 hf
      have := List.length_pos_iff.2 hne
      rcases List.mem_cons.1 h with rfl | h
      · exact ⟨hf, fill_le _ _⟩
      · exact ih (rs.drop (fill rs 32).length).length (by rw [List.length_drop]; omega) h rfl
    · split at h
      · simp at h
      · rename_i h1 h2
        obtain rfl := List.mem_singleton.1 h
        exact ⟨h2, by omega⟩
theorem cutR_ne (rs : List Int) : Ne (cutR rs) := fun _ h => (cutR_mem h).1
end Go.Proofs.YtdgdajnbkfmijaaGreatDoor
/- Operations rune by rune, as operations in bytes: transform and compose of the one are those of the other one. Plain. -/
namespace Go.Proofs.YtdgdajnbkfmijaaGreatDoor
/-- An operation over runes, byte by byte. -/
def bexp : List (RU Int) → List Int → List PT
  | .p r :: X, R => (U.enc r).map PT.byte ++ bexp X R
  | .k :: X, r :: R => List.replicate (U.wid r) PT.k1 ++ bexp X R
  | .d :: X, r :: R => List.replicate (U.wid r) PT.d1 ++ bexp X R
  | _, _ => []
theorem wid_succ (r : Int) : ∃ n, U.wid r = n + 1 := ⟨U.wid r - 1, by have := U.wid_pos r; omega⟩
theorem hput_unit (r : Int) (u : Bool) (x : List PT) : hput (List.replicate (U.wid r) (unit u) ++ x) = false := by
  obtain ⟨n, e⟩ := wid_succ r
  rw [e, List.replicate_succ]
  exact isPut_unit u
theorem hput_bk (q : Int) (Y : List (RU Int)) (R : List Int) : hput (bexp (.k :: Y) (q :: R)) = false := hput_unit q false _
theorem hput_bd (q : Int) (Y : List (RU Int)) (R : List Int) : hput (bexp (.d :: Y) (q :: R)) = false := hput_unit q true _
theorem hdrop_k (r : Int) (x : List PT) : ¬ hdrop (List.replicate (U.wid r) PT.k1 ++ x) := by
  obtain ⟨n, e⟩ := wid_succ r
  rw [e, List.replicate_succ]
  show ¬ (0 : Int) < PT.k1.drop
  decide
theorem enc_cons (r : Int) : ∃ c b, U.enc r = c :: b := by
  have := U.enc_length r
  have h2 := U.wid_pos r
  match h : U.enc r with
  | [] => rw [h] at this; simp at this; omega
  | c :: b => exact ⟨c, b, rfl⟩
theorem hdrop_p (r : Int) (x : List PT) : ¬ hdrop ((U.enc r).map PT.byte ++ x) := by
  obtain ⟨c, b, e⟩ := enc_cons r
  rw [e]
  show ¬ (0 : Int) < (PT.byte c).drop
  simp [PT.byte]
theorem tr_bexp {first : Bool} {X Y : List (RU Int)} {R : List Int} (hx : rwas X = R.length) (hy : rwas Y = R.length) : tr first (bexp X R) (bexp Y R) = bexp (rtr first X Y) (rap Y R) := by
  generalize hm : X.length + Y.length = m
  induction m using Nat.strongRecOn generalizing X Y R with
  | _ m ih =>
    have step : ∀ (X' Y' : List (RU Int)) (R' : List Int), X'.length + Y'.length < m → rwas X' = R'.length → rwas Y' = R'.length → tr first (bexp X' R') (bexp Y' R') = bexp (rtr first X' Y') (rap Y' R') := fun X' Y' R' h1 h2 h3 => ih _ h1 h2 h3 rfl
    clear ih
    match X, Y, R with
    | [], [], R => simp [bexp, rtr, tr, rap]
    | .p r :: X, [], R =>
      have := step X [] R (by simp at hm ⊢; omega) hx hy
      rw [show bexp (.p r :: X) R = (U.enc r).map PT.byte ++ bexp X R from rfl, tr_put _ _ _ (.inr (by simp [bexp, hput])), this]
      simp [rtr, bexp]
    | [], .p r :: Y, R =>
      have := step [] Y R (by simp at hm ⊢; omega) hx hy
      rw [show bexp (.p r :: Y) R = (U.enc r).map PT.byte ++ bexp Y R from rfl, tr_keep _ _ _ (.inr (by simp [bexp, hput])), this, U.enc_length]
      simp [rtr, bexp, rap]
    | .k :: X, [], R => simp [rwas] at hx hy; omega
    | .d :: X, [], R => simp [rwas] at hx hy; omega
    | [], .k :: X, R => simp [rwas] at hx hy; omega
    | [], .d :: X, R => simp [rwas] at hx hy; omega
    | .p r :: X, .p s :: Y, R =>
      cases hf : first with
      | true =>
        subst hf
        have := step X (.p s :: Y) R (by simp at hm ⊢; omega) hx hy
        rw [show bexp (.p r :: X) R = (U.enc r).map PT.byte ++ bexp X R from rfl, tr_put _ _ _ (.inl rfl), this]
        simp [rtr, bexp]
      | false =>
        subst hf
        have := step (.p r :: X) Y R (by simp at hm ⊢; omega) hx hy
        rw [show bexp (.p s :: Y) R = (U.enc s).map PT.byte ++ bexp Y R from rfl, tr_keep _ _ _ (.inl rfl), this, U.enc_length]
        simp [rtr, bexp, rap]
    | .p r :: X, .k :: Y, [] => simp [rwas] at hy
    | .p r :: X, .d :: Y, [] => simp [rwas] at hy
    | .p r :: X, .k :: Y, q :: R =>
      have := step X (.k :: Y) (q :: R) (by simp at hm ⊢; omega) hx hy
      rw [show bexp (.p r :: X) (q :: R) = (U.enc r).map PT.byte ++ bexp X (q :: R) from rfl, tr_put _ _ _ (.inr (hput_bk q _ _)), this]
      simp [rtr, bexp]
    | .p r :: X, .d :: Y, q :: R =>
      have := step X (.d :: Y) (q :: R) (by simp at hm ⊢; omega) hx hy
      rw [show bexp (.p r :: X) (q :: R) = (U.enc r).map PT.byte ++ bexp X (q :: R) from rfl, tr_put _ _ _ (.inr (hput_bd q _ _)), this]
      simp [rtr, bexp]
    | .k :: X, .p s :: Y, [] => simp [rwas] at hx
    | .d :: X, .p s :: Y, [] => simp [rwas] at hx
    | .k :: X, .p s :: Y, q :: R =>
      have := step (.k :: X) Y (q :: R) (by simp at hm ⊢; omega) hx hy
      rw [show bexp (.p s :: Y) (q :: R) = (U.enc s).map PT.byte ++ bexp Y (q :: R) from rfl, tr_keep _ _ _ (.inr (hput_bk q _ _)), this, U.enc_length]
      simp [rtr, bexp, rap]
    | .d :: X, .p s :: Y, q :: R =>
      have := step (.d :: X) Y (q :: R) (by simp at hm ⊢; omega) hx hy
      rw [show bexp (.p s :: Y) (q :: R) = (U.enc s).map PT.byte ++ bexp Y (q :: R) from rfl, tr_keep _ _ _ (.inr (hput_bd q _ _)), this, U.enc_length]
      simp [rtr, bexp, rap]
    | .k :: X, .k :: Y, [] => simp [rwas] at hx
    | .k :: X, .d :: Y, [] => simp [rwas] at hx
    | .d :: X, .k :: Y, [] => simp [rwas] at hx
    | .d :: X, .d :: Y, [] => simp [rwas] at hx
    | .k :: X, .k :: Y, q :: R =>
      have := step X Y R (by simp at hm ⊢; omega) (by simpa [rwas] using hx) (by simpa [rwas] using hy)
      have h2 := tr_both (first := first) (U.wid q) false false (bexp X R) (bexp Y R)
      rw [this] at h2
      simpa [rtr, bexp, rap, unit] using h2
    | .k :: X, .d :: Y, q :: R =>
      have := step X Y R (by simp at hm ⊢; omega) (by simpa [rwas] using hx) (by simpa [rwas] using hy)
      have h2 := tr_both (first := first) (U.wid q) false true (bexp X R) (bexp Y R)
      rw [this] at h2
      simpa [rtr, bexp, rap, unit] using h2
    | .d :: X, .k :: Y, q :: R =>
      have := step X Y R (by simp at hm ⊢; omega) (by simpa [rwas] using hx) (by simpa [rwas] using hy)
      have h2 := tr_both (first := first) (U.wid q) true false (bexp X R) (bexp Y R)
      rw [this] at h2
      simpa [rtr, bexp, rap, unit] using h2
    | .d :: X, .d :: Y, q :: R =>
      have := step X Y R (by simp at hm ⊢; omega) (by simpa [rwas] using hx) (by simpa [rwas] using hy)
      have h2 := tr_both (first := first) (U.wid q) true true (bexp X R) (bexp Y R)
      rw [this] at h2
      simpa [rtr, bexp, rap, unit] using h2
theorem cm_bexp {X Y : List (RU Int)} {R : List Int} (hx : rwas X = R.length) (hy : rwas Y = rlen X) : cm (bexp X R) (bexp Y (rap X R)) = bexp (rcm X Y) R := by
  generalize hm : X.length + Y.length = m
  induction m using Nat.strongRecOn generalizing X Y R with
  | _ m ih =>
    have step : ∀ (X' Y' : List (RU Int)) (R' : List Int), X'.length + Y'.length < m → rwas X' = R'.length → rwas Y' = rlen X' → cm (bexp X' R') (bexp Y' (rap X' R')) = bexp (rcm X' Y') R' := fun X' Y' R' h1 h2 h3 => ih _ h1 h2 h3 rfl
    clear ih
    match X, Y, R with
    | .d :: X, Y, [] => simp [rwas] at hx
    | .d :: X, Y, q :: R =>
      have := step X Y R (by simp at hm ⊢; omega) (by simpa [rwas] using hx) hy
      rw [show bexp (.d :: X) (q :: R) = List.replicate (U.wid q) PT.d1 ++ bexp X R from rfl, cm_drop, show rap (.d :: X) (q :: R) = rap X R from rfl, this]
      simp [rcm, bexp]
    | .p r :: X, .p s :: Y, R =>
      have := step (.p r :: X) Y R (by simp at hm ⊢; omega) hx hy
      rw [show ∀ S, bexp (.p s :: Y) S = (U.enc s).map PT.byte ++ bexp Y S from fun _ => rfl, cm_put _ _ _ (show ¬ hdrop (bexp (.p r :: X) R) from hdrop_p r _), this]
      simp [rcm, bexp]
    | .k :: X, .p s :: Y, [] => simp [rwas] at hx
    | .k :: X, .p s :: Y, q :: R =>
      have := step (.k :: X) Y (q :: R) (by simp at hm ⊢; omega) hx hy
      rw [show ∀ S, bexp (.p s :: Y) S = (U.enc s).map PT.byte ++ bexp Y S from fun _ => rfl, cm_put _ _ _ (show ¬ hdrop (bexp (.k :: X) (q :: R)) from hdrop_k q _), this]
      simp [rcm, bexp]
    | [], .p s :: Y, R =>
      have := step [] Y R (by simp at hm ⊢; omega) hx hy
      rw [show ∀ S, bexp (.p s :: Y) S = (U.enc s).map PT.byte ++ bexp Y S from fun _ => rfl, cm_put _ _ _ (by simp [bexp, hdrop]), this]
      simp [rcm, bexp]
    | .p r :: X, .k :: Y, R =>
      have := step X Y R (by simp at hm ⊢; omega) hx (by simpa [rwas, rlen] using hy)
      have h2 := cm_pk (U.enc r) false (bexp X R) (bexp Y (rap X R))
      rw [this, U.enc_length] at h2
      simpa [rcm, bexp, rap, unit] using h2
    | .p r :: X, .d :: Y, R =>
      have := step X Y R (by simp at hm ⊢; omega) hx (by simpa [rwas, rlen] using hy)
      have h2 := cm_pk (U.enc r) true (bexp X R) (bexp Y (rap X R))
      rw [this, U.enc_length] at h2
      simpa [rcm, bexp, rap, unit] using h2
    | .k :: X, .k :: Y, [] => simp [rwas] at hx
    | .k :: X, .d :: Y, [] => simp [rwas] at hx
    | .k :: X, .k :: Y, q :: R =>
      have := step X Y R (by simp at hm ⊢; omega) (by simpa [rwas] using hx) (by simpa [rwas, rlen] using hy)
      have h2 := cm_kk (U.wid q) false (bexp X R) (bexp Y (rap X R))
      rw [this] at h2
      simpa [rcm, bexp, rap, unit] using h2
    | .k :: X, .d :: Y, q :: R =>
      have := step X Y R (by simp at hm ⊢; omega) (by simpa [rwas] using hx) (by simpa [rwas, rlen] using hy)
      have h2 := cm_kk (U.wid q) true (bexp X R) (bexp Y (rap X R))
      rw [this] at h2
      simpa [rcm, bexp, rap, unit] using h2
    | .p r :: X, [], R => simp [rwas, rlen] at hy
    | .k :: X, [], R => simp [rwas, rlen] at hy
    | [], .k :: Y, R => simp [rwas, rlen] at hy
    | [], .d :: Y, R => simp [rwas, rlen] at hy
    | [], [], R => simp [rcm, bexp, cm]
/-- Parts that do, each by itself, what an operation over runes does. -/
inductive OpR : List PT → List (RU Int) → List Int → Prop
  | nil : OpR [] [] []
  | put {rs l X R} : rs ≠ [] → U.AllR rs → OpR l X R → OpR (⟨0, 0, U.encs rs⟩ :: l) (rs.map .p ++ X) R
  | keep {rs l X R} : rs ≠ [] → OpR l X R → OpR (⟨bl rs, 0, []⟩ :: l) (List.replicate rs.length .k ++ X) (rs ++ R)
  | drop {rs l X R} : rs ≠ [] → OpR l X R → OpR (⟨0, bl rs, []⟩ :: l) (List.replicate rs.length .d ++ X) (rs ++ R)
theorem OpR.append {a b : List PT} {X Y : List (RU Int)} {R S : List Int} (h : OpR a X R) (k : OpR b Y S) : OpR (a ++ b) (X ++ Y) (R ++ S) := by
  induction h with
  | nil => exact k
  | put h1 h2 _ ih => rw [List.append_assoc]; exact .put h1 h2 ih
  | keep h1 _ ih => rw [List.append_assoc, List.append_assoc]; exact .keep h1 ih
  | drop h1 _ ih => rw [List.append_assoc, List.append_assoc]; exact .drop h1 ih
theorem rwas_ps (rs : List Int) (X : List (RU Int)) : rwas (rs.map .p ++ X) = rwas X := by
  induction rs with
  | nil => rfl
  | cons r rs ih => exact ih
theorem rlen_ps (rs : List Int) (X : List (RU Int)) : rlen (rs.map .p ++ X) = rs.length + rlen X := by
  induction rs with
  | nil => simp
  | cons r rs ih => simp only [List.map_cons, List.cons_append, rlen, ih, List.length_cons]; omega
theorem rwas_ks (n : Nat) (X : List (RU Int)) : rwas (List.replicate n .k ++ X) = n + rwas X := by
  induction n with
  | zero => simp
  | succ n ih => simp only [List.replicate_succ, List.cons_append, rwas, ih]; omega
theorem rlen_ks (n : Nat) (X : List (RU Int)) : rlen (List.replicate n .k ++ X) = n + rlen X := by
  induction n with
  | zero => simp
  | succ n ih => simp only [List.replicate_succ, List.cons_append, rlen, ih]; omega
theorem OpR.was_ {l : List PT} {X : List (RU Int)} {R : List Int} (h : OpR l X R) : rwas X = R.length := by
  induction h with
  | nil => rfl
  | put _ _ _ ih => rw [rwas_ps, ih]
  | keep _ _ ih => rw [rwas_ks, ih, List.length_append]
  | drop _ _ ih => rw [rwas_append, rwas_ds, ih, List.length_append]
theorem bexp_ps (rs : List Int) (X : List (RU Int)) (R : List Int) : bexp (rs.map .p ++ X) R = (U.encs rs).map PT.byte ++ bexp X R := by
  induction rs with
  | nil => rfl
  | cons r rs ih => simp only [List.map_cons, List.cons_append, bexp, ih, U.encs_cons, List.map_append, List.append_assoc]
theorem bexp_ks (rs : List Int) (X : List (RU Int)) (R : List Int) : bexp (List.replicate rs.length .k ++ X) (rs ++ R) = List.replicate (bl rs) PT.k1 ++ bexp X R := by
  induction rs with
  | nil => rfl
  | cons r rs ih => simp only [List.length_cons, List.replicate_succ, List.cons_append, bexp, ih, bl_cons]; rw [← List.append_assoc, List.replicate_append_replicate]
theorem bexp_ds (rs : List Int) (X : List (RU Int)) (R : List Int) : bexp (List.replicate rs.length .d ++ X) (rs ++ R) = List.replicate (bl rs) PT.d1 ++ bexp X R := by
  induction rs with
  | nil => rfl
  | cons r rs ih => simp only [List.length_cons, List.replicate_succ, List.cons_append, bexp, ih, bl_cons]; rw [← List.append_assoc, List.replicate_append_replicate]
theorem encs_ne {rs : List Int} (h : rs ≠ []) : U.encs rs ≠ [] := fun e => by
  have := bl_pos h
  unfold bl at this
  rw [e] at this
  simp at this
theorem sp_nil : U.Sp [] [] [] := U.sp_encs (rs := []) (fun r hr => by cases hr)
theorem OpR.arg {l : List PT} {X : List (RU Int)} {R : List Int} (h : OpR l X R) : ∀ p ∈ l, p.Good := by
  induction h with
  | nil => intro p hp; simp at hp
  | put h1 h2 _ ih =>
    intro p hp
    rcases List.mem_cons.1 hp with rfl | hp
    · exact ⟨PT.arg_put (encs_ne h1), _, U.sp_encs h2⟩
    · exact ih p hp
  | keep h1 _ ih =>
    intro p hp
    rcases List.mem_cons.1 hp with rfl | hp
    · exact ⟨PT.arg_keep (by have := bl_pos h1; omega), [], sp_nil⟩
    · exact ih p hp
  | drop h1 _ ih =>
    intro p hp
    rcases List.mem_cons.1 hp with rfl | hp
    · exact ⟨PT.arg_drop (by have := bl_pos h1; omega), [], sp_nil⟩
    · exact ih p hp
theorem OpR.expand_ {l : List PT} {X : List (RU Int)} {R : List Int} (h : OpR l X R) : expand l = bexp X R := by
  induction h with
  | nil => rfl
  | put h1 h2 _ ih => rw [expand_cons, exp_put, bexp_ps, ih]
  | keep h1 _ ih =>
    have := bl_pos h1
    rw [expand_cons, bexp_ks, ih]
    simp [PT.exp]
  | drop h1 _ ih =>
    have := bl_pos h1
    rw [expand_cons, bexp_ds, ih]
    congr 1
    unfold PT.exp
    rw [if_neg (by simp), if_pos (by dsimp only; omega)]
    simp
theorem OpR.sizes {l : List PT} {X : List (RU Int)} {R : List Int} (h : OpR l X R) : was l = bl R ∧ comes l = bl (rap X R) := by
  induction h with
  | nil => exact ⟨rfl, rfl⟩
  | @put rs l X R h1 h2 _ ih =>
    have e : rap (rs.map .p ++ X) R = rs ++ rap X R := by
      clear h1 h2 ih
      induction rs with
      | nil => rfl
      | cons r rs ih2 => simp only [List.map_cons, List.cons_append, rap, ih2]
    rw [was, comes, e, bl_append, ih.1, ih.2]
    unfold bl
    constructor <;> dsimp only <;> omega
  | @keep rs l X R h1 _ ih =>
    have e : rap (List.replicate rs.length .k ++ X) (rs ++ R) = rs ++ rap X R := by
      clear h1 ih
      induction rs with
      | nil => rfl
      | cons r rs ih2 => simp only [List.length_cons, List.replicate_succ, List.cons_append, rap, ih2]
    rw [was, comes, e, bl_append, bl_append, ih.1, ih.2]
    constructor <;> dsimp only [List.length_nil] <;> omega
  | @drop rs l X R h1 _ ih =>
    have e : rap (List.replicate rs.length .d ++ X) (rs ++ R) = rap X R := by
      clear h1 ih
      induction rs with
      | nil => rfl
      | cons r rs ih2 => simp only [List.length_cons, List.replicate_succ, List.cons_append, rap, ih2]
    rw [was, comes, e, bl_append, ih.1, ih.2]
    constructor <;> dsimp only [List.length_nil] <;> omega
end Go.Proofs.YtdgdajnbkfmijaaGreatDoor
/- Tapes in plain Lean: one step of Transform and of Compose. -/
namespace Go.Proofs.YtdgdajnbkfmijaaGreatDoor
theorem exp_drop (n : Nat) : (⟨0, n, []⟩ : PT).exp = List.replicate n PT.d1 := by
  unfold PT.exp
  rw [if_neg (by simp)]
  dsimp only
  by_cases h : 0 < (n : Int)
  · rw [if_pos h]; simp
  · rw [if_neg h]; obtain rfl : n = 0 := by omega
    rfl
theorem exp_keep (n : Nat) : (⟨n, 0, []⟩ : PT).exp = List.replicate n PT.k1 := by
  unfold PT.exp
  rw [if_neg (by simp)]
  dsimp only
  rw [if_neg (by decide)]; simp
/-- How much a part has. -/
def PT.size (p : PT) : Nat := p.exp.length
theorem size_put (b : U.Bs) : (⟨0, 0, b⟩ : PT).size = b.length := by rw [PT.size, exp_put]; simp
theorem size_drop (n : Nat) : (⟨0, n, []⟩ : PT).size = n := by rw [PT.size, exp_drop]; simp
theorem size_keep (n : Nat) : (⟨n, 0, []⟩ : PT).size = n := by rw [PT.size, exp_keep]; simp
theorem PT.arg.pos {p : PT} (h : p.arg) : 0 < p.size := by
  rcases h.cases with ⟨b, hb, rfl⟩ | ⟨n, hn, rfl⟩ | ⟨n, hn, rfl⟩
  · rw [size_put]; exact List.length_pos_iff.2 hb
  · rw [size_drop]; exact hn
  · rw [size_keep]; exact hn
/-- What is left of a part of which so much was taken. -/
def PT.left (p : PT) (n : Nat) : PT := if p.put ≠ [] then ⟨0, 0, p.put.drop n⟩ else if 0 < p.keep then ⟨p.keep - n, 0, []⟩ else ⟨0, p.drop - n, []⟩
theorem PT.left_exp {p : PT} (h : p.arg) {n : Nat} (hn : n ≤ p.size) : (p.left n).exp = p.exp.drop n := by
  rcases h.cases with ⟨b, hb, rfl⟩ | ⟨m, hm, rfl⟩ | ⟨m, hm, rfl⟩
  · simp only [PT.left, if_pos hb, ne_eq]; rw [exp_put, exp_put, List.map_drop]
  · rw [size_drop] at hn
    simp only [PT.left, ne_eq, not_true_eq_false, if_false, Int.lt_irrefl]
    rw [show ((m : Int) - n) = ((m - n : Nat) : Int) from by omega, exp_drop, exp_drop, List.drop_replicate]
  · rw [size_keep] at hn
    simp only [PT.left, ne_eq, not_true_eq_false, if_false]
    rw [if_pos (by omega), show ((m : Int) - n) = ((m - n : Nat) : Int) from by omega, exp_keep, exp_keep, List.drop_replicate]
theorem PT.left_arg {p : PT} (h : p.arg) {n : Nat} (hn : n < p.size) : (p.left n).arg := by
  rcases h.cases with ⟨b, hb, rfl⟩ | ⟨m, hm, rfl⟩ | ⟨m, hm, rfl⟩
  · rw [size_put] at hn
    simp only [PT.left, if_pos hb, ne_eq]
    exact PT.arg_put (fun e => by have := congrArg List.length e; simp at this; omega)
  · rw [size_drop] at hn
    simp only [PT.left, ne_eq, not_true_eq_false, if_false, Int.lt_irrefl]
    exact PT.arg_drop (by omega)
  · rw [size_keep] at hn
    simp only [PT.left, ne_eq, not_true_eq_false, if_false]
    rw [if_pos (by omega)]
    exact PT.arg_keep (by omega)
/-- A tape's place is one. -/
def Tok (l : List PT) (n : Nat) : Prop := (∀ p ∈ l, p.arg) ∧ match l with | [] => n = 0 | p :: _ => n ≤ p.size
/-- What a tape has yet, byte by byte. -/
def tape (l : List PT) (n : Nat) : List PT := (expand l).drop n
/-- What next gives: a part p that begins what there is yet; or none. -/
def Nx (u : List PT) (p : PT) (some : Bool) : Prop := (some = true ∧ p.arg ∧ ∃ r, u = p.exp ++ r) ∨ (some = false ∧ p = ⟨0, 0, []⟩ ∧ u = [])
theorem tape_skip {p : PT} {l : List PT} {n : Nat} (h : n = p.size) : tape (p :: l) n = tape l 0 := by
  unfold tape
  rw [expand_cons, h, PT.size, List.drop_left, List.drop_zero]
theorem tape_cons {p : PT} {l : List PT} {n : Nat} (h : n ≤ p.size) (ha : p.arg) : tape (p :: l) n = (p.left n).exp ++ expand l := by
  unfold tape
  rw [expand_cons, List.drop_append_of_le_length h, PT.left_exp ha h]
theorem tape_take {l : List PT} {n m : Nat} : tape l (n + m) = (tape l n).drop m := by unfold tape; rw [List.drop_drop]
theorem Nx.hput {u : List PT} {p : PT} {s : Bool} (h : Nx u p s) : hput u = decide (p.put ≠ []) := by
  rcases h with ⟨_, ha, r, rfl⟩ | ⟨_, rfl, rfl⟩
  · rcases ha.cases with ⟨b, hb, rfl⟩ | ⟨n, hn, rfl⟩ | ⟨n, hn, rfl⟩
    · rw [exp_put]
      match b, hb with
      | c :: b, _ => simp [Go.Proofs.YtdgdajnbkfmijaaGreatDoor.hput, isPut_byte]
    · rw [exp_drop]
      obtain ⟨m, rfl⟩ : ∃ m, n = m + 1 := ⟨n - 1, by omega⟩
      simp [List.replicate_succ, Go.Proofs.YtdgdajnbkfmijaaGreatDoor.hput, isPut_d1]
    · rw [exp_keep]
      obtain ⟨m, rfl⟩ : ∃ m, n = m + 1 := ⟨n - 1, by omega⟩
      simp [List.replicate_succ, Go.Proofs.YtdgdajnbkfmijaaGreatDoor.hput, isPut_k1]
  · simp [Go.Proofs.YtdgdajnbkfmijaaGreatDoor.hput]
theorem expand_snoc (l : List PT) (p : PT) : expand (l ++ [p]) = expand l ++ p.exp := by rw [expand_append]; simp [expand]
section
variable {first : Bool} {x y out : List PT} {p q : PT} {s t : Bool}
theorem tr_s1 (hx : Nx x p s) (hy : Nx y q t) (hp : p.put ≠ []) (h : first = true ∨ q.put = []) :
    s = true ∧ p.arg ∧ expand (out ++ [p]) ++ tr first (x.drop p.put.length) y = expand out ++ tr first x y ∧ uwas (x.drop p.put.length) = uwas x ∧ (x.drop p.put.length).length + p.put.length = x.length := by
  rcases hx with ⟨rfl, ha, r, rfl⟩ | ⟨_, rfl, rfl⟩
  · refine ⟨rfl, ha, ?_⟩
    rcases ha.cases with ⟨b, hb, rfl⟩ | ⟨n, hn, rfl⟩ | ⟨n, hn, rfl⟩
    · have e : (List.map PT.byte b ++ r).drop b.length = r := by
        have := List.drop_left (l₁ := List.map PT.byte b) (l₂ := r)
        rwa [List.length_map] at this
      rw [expand_snoc, exp_put]
      dsimp only
      rw [e, tr_put b r y (h.imp id fun hq => by rw [hy.hput, hq]; simp), List.append_assoc]
      refine ⟨rfl, ?_, by simp; omega⟩
      clear e hb hp ha
      induction b with
      | nil => rfl
      | cons c b ih => simp only [List.map_cons, List.cons_append, uwas, isPut_byte, if_true, ← ih]; omega
    · exact absurd rfl hp
    · exact absurd rfl hp
  · exact absurd rfl hp
theorem tr_s2 (hx : Nx x p s) (hy : Nx y q t) (hq : q.put ≠ []) (h : first = false ∨ p.put = []) :
    t = true ∧ (⟨q.put.length, 0, []⟩ : PT).arg ∧ expand (out ++ [⟨q.put.length, 0, []⟩]) ++ tr first x (y.drop q.put.length) = expand out ++ tr first x y ∧ uwas (y.drop q.put.length) = uwas y ∧ (y.drop q.put.length).length + q.put.length = y.length := by
  have hl : 0 < q.put.length := List.length_pos_iff.2 hq
  rcases hy with ⟨rfl, ha, r, rfl⟩ | ⟨_, rfl, rfl⟩
  · refine ⟨rfl, PT.arg_keep (by omega), ?_⟩
    rcases ha.cases with ⟨b, hb, rfl⟩ | ⟨n, hn, rfl⟩ | ⟨n, hn, rfl⟩
    · have e : (List.map PT.byte b ++ r).drop b.length = r := by
        have := List.drop_left (l₁ := List.map PT.byte b) (l₂ := r)
        rwa [List.length_map] at this
      rw [expand_snoc, exp_keep, exp_put]
      dsimp only
      rw [e, tr_keep b x r (h.imp id fun hq => by rw [hx.hput, hq]; simp), List.append_assoc]
      refine ⟨rfl, ?_, by simp; omega⟩
      clear e hb hq ha hl
      induction b with
      | nil => rfl
      | cons c b ih => simp only [List.map_cons, List.cons_append, uwas, isPut_byte, if_true, ← ih]; omega
    · exact absurd rfl hq
    · exact absurd rfl hq
  · exact absurd rfl hq
theorem uwas_append (a b : List PT) : uwas (a ++ b) = uwas a + uwas b := by
  induction a with
  | nil => simp [uwas]
  | cons p a ih => rw [List.cons_append, uwas, uwas, ih]; omega
theorem ucomes_append (a b : List PT) : ucomes (a ++ b) = ucomes a + ucomes b := by
  induction a with
  | nil => simp [ucomes]
  | cons p a ih => rw [List.cons_append, ucomes, ucomes, ih]; omega
theorem uwas_unit (n : Nat) (v : Bool) : uwas (List.replicate n (unit v)) = n := by
  induction n with
  | zero => rfl
  | succ n ih => rw [List.replicate_succ, uwas, if_neg (by simp [isPut_unit]), ih]; omega
/-- A part that puts nothing is so many units. -/
theorem Nx.noput (hx : Nx x p s) (hp : p.put = []) (hs : s = true) : ∃ (n : Nat) (v : Bool) (r : List PT), 0 < n ∧ p.keep + p.drop = n ∧ x = List.replicate n (unit v) ++ r ∧ (v = true ↔ ¬ 0 < p.keep) ∧ p = (if v = true then ⟨0, n, []⟩ else ⟨n, 0, []⟩) := by
  rcases hx with ⟨_, ha, r, rfl⟩ | ⟨h, _⟩
  · rcases ha.cases with ⟨b, hb, rfl⟩ | ⟨n, hn, rfl⟩ | ⟨n, hn, rfl⟩
    · exact absurd hp hb
    · exact ⟨n, true, r, hn, by simp, by rw [exp_drop]; rfl, by simp, by simp⟩
    · exact ⟨n, false, r, hn, by simp, by rw [exp_keep]; rfl, by simp; omega, by simp⟩
  · subst hs; exact absurd h (by simp)
theorem Nx.some_of (hx : Nx x p s) (h : 0 < x.length) : s = true := by
  rcases hx with ⟨h, _⟩ | ⟨_, _, rfl⟩
  · exact h
  · simp at h
/-- Where nobody puts, and something is left: both have something. -/
theorem tr_s3 (hx : Nx x p s) (hy : Nx y q t) (hp : p.put = []) (hq : q.put = []) (hw : uwas x = uwas y) (hs : s = true ∨ t = true) :
    ∃ n : Nat, 0 < n ∧ min (p.keep + p.drop) (q.keep + q.drop) = n ∧ n ≤ x.length ∧ n ≤ y.length ∧ uwas (x.drop n) = uwas (y.drop n) ∧
      (0 < q.keep → 0 < p.keep → expand (out ++ [⟨n, 0, []⟩]) ++ tr first (x.drop n) (y.drop n) = expand out ++ tr first x y) ∧
      (0 < q.keep → ¬ 0 < p.keep → expand (out ++ [⟨0, n, []⟩]) ++ tr first (x.drop n) (y.drop n) = expand out ++ tr first x y) ∧
      (¬ 0 < q.keep → expand out ++ tr first (x.drop n) (y.drop n) = expand out ++ tr first x y) := by
  have both : s = true ∧ t = true := by
    rcases hs with h | h
    · refine ⟨h, ?_⟩
      obtain ⟨n, v, r, hn, _, rfl, _⟩ := hx.noput hp h
      rw [uwas_append, uwas_unit] at hw
      refine hy.some_of ?_
      cases y with
      | nil => simp [uwas] at hw; omega
      | cons => simp
    · refine ⟨?_, h⟩
      obtain ⟨n, v, r, hn, _, rfl, _⟩ := hy.noput hq h
      rw [uwas_append, uwas_unit] at hw
      refine hx.some_of ?_
      cases x with
      | nil => simp [uwas] at hw; omega
      | cons => simp
  obtain ⟨n1, u, r1, h1, e1, rfl, hu, _⟩ := hx.noput hp both.1
  obtain ⟨n2, v, r2, h2, e2, rfl, hv, _⟩ := hy.noput hq both.2
  obtain ⟨n, hn⟩ : ∃ n, n = min n1 n2 := ⟨_, rfl⟩
  have hn1 : n ≤ n1 := by omega
  have hn2 : n ≤ n2 := by omega
  have d1 : ∀ (m : Nat) (w : Bool) (r : List PT), n ≤ m → (List.replicate m (unit w) ++ r).drop n = List.replicate (m - n) (unit w) ++ r := fun m w r h => by
    rw [List.drop_append_of_le_length (by simpa using h), List.drop_replicate]
  have s1 : ∀ (m : Nat) (w : Bool) (r : List PT), n ≤ m → List.replicate m (unit w) ++ r = List.replicate n (unit w) ++ (List.replicate (m - n) (unit w) ++ r) := fun m w r h => by
    rw [← List.append_assoc, List.replicate_append_replicate, show n + (m - n) = m from by omega]
  have key : tr first (List.replicate n1 (unit u) ++ r1) (List.replicate n2 (unit v) ++ r2) = (if v = true then [] else List.replicate n (unit u)) ++ tr first (List.replicate (n1 - n) (unit u) ++ r1) (List.replicate (n2 - n) (unit v) ++ r2) := by
    rw [s1 n1 u r1 hn1, s1 n2 v r2 hn2, tr_both]
  refine ⟨n, by omega, by omega, by simp; omega, by simp; omega, ?_⟩
  rw [d1 _ _ _ hn1, d1 _ _ _ hn2, key]
  refine ⟨?_, ?_, ?_, ?_⟩
  · simp only [uwas_append, uwas_unit] at hw ⊢
    omega
  · intro hk hk2
    rw [expand_snoc, exp_keep, List.append_assoc, if_neg (fun e => hv.1 e hk)]
    have : u = false := by
      cases u with
      | false => rfl
      | true => exact absurd hk2 (hu.1 rfl)
    subst this; rfl
  · intro hk hk2
    rw [expand_snoc, exp_drop, List.append_assoc, if_neg (fun e => hv.1 e hk)]
    have : u = true := hu.2 hk2
    subst this; rfl
  · intro hk
    rw [if_pos (hv.2 hk)]; rfl
end
section
variable {x y out : List PT} {p q : PT} {s t : Bool}
theorem ucomes_k (n : Nat) : ucomes (List.replicate n PT.k1) = n := by
  induction n with
  | zero => rfl
  | succ n ih => rw [List.replicate_succ, ucomes, if_neg (by decide), ih]; omega
theorem ucomes_d (n : Nat) : ucomes (List.replicate n PT.d1) = 0 := by
  induction n with
  | zero => rfl
  | succ n ih => rw [List.replicate_succ, ucomes, if_pos (by decide), ih]
theorem ucomes_b (b : U.Bs) : ucomes (b.map PT.byte) = b.length := by
  induction b with
  | nil => rfl
  | cons c b ih => simp only [List.map_cons, ucomes, List.length_cons]; rw [if_neg (by simp [PT.byte]), ih]; omega
theorem uwas_b (b : U.Bs) : uwas (b.map PT.byte) = 0 := by
  induction b with
  | nil => rfl
  | cons c b ih => simp only [List.map_cons, uwas]; rw [if_pos (isPut_byte c), ih]
theorem Nx.hdrop (h : Nx x p s) : Go.Proofs.YtdgdajnbkfmijaaGreatDoor.hdrop x ↔ 0 < p.drop := by
  rcases h with ⟨_, ha, r, rfl⟩ | ⟨_, rfl, rfl⟩
  · rcases ha.cases with ⟨b, hb, rfl⟩ | ⟨n, hn, rfl⟩ | ⟨n, hn, rfl⟩
    · rw [exp_put]
      match b, hb with
      | c :: b, _ => simp [Go.Proofs.YtdgdajnbkfmijaaGreatDoor.hdrop, PT.byte]
    · rw [exp_drop]
      obtain ⟨m, rfl⟩ : ∃ m, n = m + 1 := ⟨n - 1, by omega⟩
      simp [List.replicate_succ, Go.Proofs.YtdgdajnbkfmijaaGreatDoor.hdrop, PT.d1]
    · rw [exp_keep]
      obtain ⟨m, rfl⟩ : ∃ m, n = m + 1 := ⟨n - 1, by omega⟩
      simp [List.replicate_succ, Go.Proofs.YtdgdajnbkfmijaaGreatDoor.hdrop, PT.k1]
  · simp [Go.Proofs.YtdgdajnbkfmijaaGreatDoor.hdrop]
theorem Nx.isPut_ (hx : Nx x p s) (hp : p.put ≠ []) : s = true ∧ p = ⟨0, 0, p.put⟩ ∧ ∃ r, x = p.put.map PT.byte ++ r := by
  rcases hx with ⟨rfl, ha, r, rfl⟩ | ⟨_, rfl, rfl⟩
  · rcases ha.cases with ⟨b, hb, rfl⟩ | ⟨n, hn, rfl⟩ | ⟨n, hn, rfl⟩
    · exact ⟨rfl, rfl, r, by rw [exp_put]⟩
    · exact absurd rfl hp
    · exact absurd rfl hp
  · exact absurd rfl hp
/-- The first one drops. -/
theorem cm_s1 (hx : Nx x p s) (hp : 0 < p.drop) (hw : ucomes x = uwas y) :
    ∃ n : Nat, 0 < n ∧ p = ⟨0, n, []⟩ ∧ expand (out ++ [p]) ++ cm (x.drop n) y = expand out ++ cm x y ∧ ucomes (x.drop n) = uwas y ∧ (x.drop n).length + n = x.length := by
  rcases hx with ⟨rfl, ha, r, rfl⟩ | ⟨_, rfl, rfl⟩
  · rcases ha.cases with ⟨b, hb, rfl⟩ | ⟨n, hn, rfl⟩ | ⟨n, hn, rfl⟩
    · exact absurd hp (by simp)
    · rw [exp_drop] at hw ⊢
      have e : (List.replicate n PT.d1 ++ r).drop n = r := by
        have := List.drop_left (l₁ := List.replicate n PT.d1) (l₂ := r)
        rwa [List.length_replicate] at this
      refine ⟨n, hn, rfl, ?_, ?_, by simp; omega⟩
      · rw [e, expand_snoc, exp_drop, cm_drop, List.append_assoc]
      · rw [e, ← hw, ucomes_append, ucomes_d]; omega
    · exact absurd hp (by simp)
  · exact absurd hp (by simp)
/-- The second one puts. -/
theorem cm_s2 (hx : Nx x p s) (hy : Nx y q t) (hp : ¬ 0 < p.drop) (hq : q.put ≠ []) (hw : ucomes x = uwas y) :
    q.arg ∧ expand (out ++ [q]) ++ cm x (y.drop q.put.length) = expand out ++ cm x y ∧ ucomes x = uwas (y.drop q.put.length) ∧ (y.drop q.put.length).length + q.put.length = y.length := by
  obtain ⟨_, hq2, r, rfl⟩ := hy.isPut_ hq
  have e : (List.map PT.byte q.put ++ r).drop q.put.length = r := by
    have := List.drop_left (l₁ := List.map PT.byte q.put) (l₂ := r)
    rwa [List.length_map] at this
  refine ⟨by rw [hq2]; exact PT.arg_put hq, ?_, ?_, by simp; omega⟩
  · rw [e, cm_put _ _ _ (fun h => hp (hx.hdrop.1 h)), expand_snoc, hq2, exp_put, List.append_assoc]
  · rw [e, hw, uwas_append, uwas_b]; omega
/-- The first one puts, the second one goes over it. -/
theorem cm_s3 (hx : Nx x p s) (hy : Nx y q t) (hp : p.put ≠ []) (hq : q.put = []) (hw : ucomes x = uwas y) :
    ∃ n : Nat, 0 < n ∧ min (p.put.length : Int) (q.keep + q.drop) = n ∧ n ≤ p.put.length ∧ n ≤ x.length ∧ n ≤ y.length ∧ ucomes (x.drop n) = uwas (y.drop n) ∧
      (0 < q.keep → (⟨0, 0, p.put.take n⟩ : PT).arg ∧ expand (out ++ [⟨0, 0, p.put.take n⟩]) ++ cm (x.drop n) (y.drop n) = expand out ++ cm x y) ∧
      (¬ 0 < q.keep → expand out ++ cm (x.drop n) (y.drop n) = expand out ++ cm x y) := by
  obtain ⟨_, hp2, r1, rfl⟩ := hx.isPut_ hp
  have hl : 0 < p.put.length := List.length_pos_iff.2 hp
  rw [ucomes_append, ucomes_b] at hw
  have ht : t = true := by
    refine hy.some_of ?_
    cases y with
    | nil => simp only [uwas] at hw; omega
    | cons => simp
  obtain ⟨n2, v, r2, h2, e2, rfl, hv, _⟩ := hy.noput hq ht
  rw [uwas_append, uwas_unit] at hw
  obtain ⟨n, hn⟩ : ∃ n, n = min p.put.length n2 := ⟨_, rfl⟩
  have hn1 : n ≤ p.put.length := by omega
  have hn2 : n ≤ n2 := by omega
  have d1 : (List.map PT.byte p.put ++ r1).drop n = List.map PT.byte (p.put.drop n) ++ r1 := by
    rw [List.drop_append_of_le_length (by simpa using hn1), List.map_drop]
  have d2 : (List.replicate n2 (unit v) ++ r2).drop n = List.replicate (n2 - n) (unit v) ++ r2 := by
    rw [List.drop_append_of_le_length (by simpa using hn2), List.drop_replicate]
  have key : cm (List.map PT.byte p.put ++ r1) (List.replicate n2 (unit v) ++ r2) = (if v = true then [] else (p.put.take n).map PT.byte) ++ cm (List.map PT.byte (p.put.drop n) ++ r1) (List.replicate (n2 - n) (unit v) ++ r2) := by
    have s1 : List.map PT.byte p.put ++ r1 = (p.put.take n).map PT.byte ++ (List.map PT.byte (p.put.drop n) ++ r1) := by
      rw [← List.append_assoc, ← List.map_append, List.take_append_drop]
    have s2 : List.replicate n2 (unit v) ++ r2 = List.replicate (p.put.take n).length (unit v) ++ (List.replicate (n2 - n) (unit v) ++ r2) := by
      rw [← List.append_assoc, List.replicate_append_replicate, List.length_take, show min n p.put.length + (n2 - n) = n2 from by omega]
    rw [s1, s2, cm_pk]
  refine ⟨n, by omega, by omega, hn1, by simp; omega, by simp; omega, ?_⟩
  rw [d1, d2, key]
  refine ⟨?_, ?_, ?_⟩
  · simp only [ucomes_append, ucomes_b, uwas_append, uwas_unit, List.length_drop] at hw ⊢
    omega
  · intro hk
    refine ⟨PT.arg_put (fun e => by have := congrArg List.length e; rw [List.length_take, List.length_nil] at this; omega), ?_⟩
    rw [expand_snoc, exp_put, List.append_assoc, if_neg (fun e => hv.1 e hk)]
  · intro hk
    rw [if_pos (hv.2 hk)]; rfl
/-- The first one keeps, the second one goes over it. -/
theorem cm_s4 (hx : Nx x p s) (hy : Nx y q t) (hp : p.put = []) (hd : ¬ 0 < p.drop) (hq : q.put = []) (hw : ucomes x = uwas y) (hs : s = true ∨ t = true) :
    ∃ n : Nat, 0 < n ∧ min p.keep (q.keep + q.drop) = n ∧ n ≤ x.length ∧ n ≤ y.length ∧ ucomes (x.drop n) = uwas (y.drop n) ∧
      (0 < q.keep → expand (out ++ [⟨n, 0, []⟩]) ++ cm (x.drop n) (y.drop n) = expand out ++ cm x y) ∧
      (¬ 0 < q.keep → expand (out ++ [⟨0, n, []⟩]) ++ cm (x.drop n) (y.drop n) = expand out ++ cm x y) := by
  have hkeep : s = true → ∃ (n : Nat) (r : List PT), 0 < n ∧ p.keep = n ∧ x = List.replicate n PT.k1 ++ r := by
    intro h
    rcases hx with ⟨_, ha, r, rfl⟩ | ⟨h', _⟩
    · rcases ha.cases with ⟨b, hb, rfl⟩ | ⟨n, hn, rfl⟩ | ⟨n, hn, rfl⟩
      · exact absurd hp hb
      · exact absurd hd (by simp; omega)
      · exact ⟨n, r, hn, rfl, by rw [exp_keep]⟩
    · subst h; exact absurd h' (by simp)
  have both : s = true ∧ t = true := by
    rcases hs with h | h
    · refine ⟨h, ?_⟩
      obtain ⟨n, r, hn, _, rfl⟩ := hkeep h
      rw [ucomes_append, ucomes_k] at hw
      refine hy.some_of ?_
      cases y with
      | nil => simp [uwas] at hw; omega
      | cons => simp
    · refine ⟨?_, h⟩
      obtain ⟨n, v, r, hn, _, rfl, _⟩ := hy.noput hq h
      rw [uwas_append, uwas_unit] at hw
      refine hx.some_of ?_
      cases x with
      | nil => simp [ucomes] at hw; omega
      | cons => simp
  obtain ⟨n1, r1, h1, e1, rfl⟩ := hkeep both.1
  obtain ⟨n2, v, r2, h2, e2, rfl, hv, _⟩ := hy.noput hq both.2
  rw [ucomes_append, ucomes_k, uwas_append, uwas_unit] at hw
  obtain ⟨n, hn⟩ : ∃ n, n = min n1 n2 := ⟨_, rfl⟩
  have hn1 : n ≤ n1 := by omega
  have hn2 : n ≤ n2 := by omega
  have d1 : ∀ (m : Nat) (w : PT) (r : List PT), n ≤ m → (List.replicate m w ++ r).drop n = List.replicate (m - n) w ++ r := fun m w r h => by
    rw [List.drop_append_of_le_length (by simpa using h), List.drop_replicate]
  have s1 : ∀ (m : Nat) (w : PT) (r : List PT), n ≤ m → List.replicate m w ++ r = List.replicate n w ++ (List.replicate (m - n) w ++ r) := fun m w r h => by
    rw [← List.append_assoc, List.replicate_append_replicate, show n + (m - n) = m from by omega]
  have key : cm (List.replicate n1 PT.k1 ++ r1) (List.replicate n2 (unit v) ++ r2) = List.replicate n (unit v) ++ cm (List.replicate (n1 - n) PT.k1 ++ r1) (List.replicate (n2 - n) (unit v) ++ r2) := by
    rw [s1 n1 PT.k1 r1 hn1, s1 n2 (unit v) r2 hn2, cm_kk]
  refine ⟨n, by omega, by omega, by simp; omega, by simp; omega, ?_⟩
  rw [d1 _ _ _ hn1, d1 _ _ _ hn2, key]
  refine ⟨?_, ?_, ?_⟩
  · simp only [ucomes_append, ucomes_k, uwas_append, uwas_unit]
    omega
  · intro hk
    have : v = false := by
      cases v with
      | false => rfl
      | true => exact absurd hk (hv.1 rfl)
    subst this
    rw [expand_snoc, exp_keep, List.append_assoc]; rfl
  · intro hk
    have : v = true := hv.2 hk
    subst this
    rw [expand_snoc, exp_drop, List.append_assoc]; rfl
end
end Go.Proofs.YtdgdajnbkfmijaaGreatDoor
/- How great an operation of few parts is. -/
namespace Go.Proofs.YtdgdajnbkfmijaaGreatDoor
open Go.RowKit
theorem chk_good {l : List PT} {m : Int} (h : chk l m = 0) : ∀ p ∈ l, p.Good := by
  unfold chk at h
  split at h
  · rename_i h1
    clear h
    induction l with
    | nil => intro p hp; simp at hp
    | cons p l ih =>
      unfold e1 at h1
      split at h1
      · exact absurd h1 (by decide)
      · rename_i ha
        split at h1
        · exact absurd h1 (by decide)
        · rename_i hf
          intro q hq
          rcases List.mem_cons.1 hq with rfl | hq
          · exact ⟨Classical.not_not.1 ha, Classical.not_not.1 hf⟩
          · exact ih h1 q hq
  · rename_i h1; exact absurd h h1
theorem few_bd {l : List PT} (hf : Few l) (ha : ∀ p ∈ l, p.arg) : was l ≤ 10000 * l.length ∧ plen l ≤ 300 * l.length ∧ 0 ≤ was l := by
  refine ⟨?_, ?_, was_nn ha⟩
  · induction l with
    | nil => simp [was]
    | cons p l ih =>
      have h1 := ih (fun q hq => hf q (by simp [hq])) (fun q hq => ha q (by simp [hq]))
      obtain ⟨_, h2, h3⟩ := hf p (by simp)
      rw [was, List.length_cons]
      omega
  · induction l with
    | nil => simp [plen]
    | cons p l ih =>
      have h1 := ih (fun q hq => hf q (by simp [hq])) (fun q hq => ha q (by simp [hq]))
      obtain ⟨h2, _⟩ := hf p (by simp)
      rw [plen, List.length_cons]
      omega
end Go.Proofs.YtdgdajnbkfmijaaGreatDoor
/- A rope's tree is as low as it must be. Plain. -/
namespace Go.Proofs.YtdgdajnbkfmijaaGreatDoor
namespace RT
def Bal : RT → Prop
  | nil => True
  | node _ _ l r => l.high ≤ r.high + 1 ∧ r.high ≤ l.high + 1 ∧ Bal l ∧ Bal r
theorem lvl_bal {g : Nat} {rs : List Int} {l r : RT} (hl : Bal l) (hr : Bal r) (h1 : l.high ≤ r.high + 2) (h2 : r.high ≤ l.high + 2) :
    Bal (lvl g rs l r) ∧ max l.high r.high ≤ (lvl g rs l r).high ∧ (lvl g rs l r).high ≤ 1 + max l.high r.high ∧ (l.high ≤ r.high + 1 → r.high ≤ l.high + 1 → (lvl g rs l r).high = 1 + max l.high r.high) := by
  unfold lvl
  split
  · rename_i h
    cases l with
    | nil => simp at h
    | node gl rl a b =>
      obtain ⟨k1, k2, ka, kb⟩ := hl
      simp only [high_node] at h h1 h2 ⊢
      show _ ∧ _
      have e : (node gl rl a b).fixL = if a.high < b.high then rotL gl rl a b else node gl rl a b := rfl
      rw [e]
      split
      · cases b with
        | nil => rename_i h3; simp at h3
        | node gb rb c d =>
          obtain ⟨m1, m2, kc, kd⟩ := kb
          simp only [high_node] at *
          simp only [rotL, rotR, Bal, high_node]
          refine ⟨⟨?_, ?_, ⟨?_, ?_, ka, kc⟩, ⟨?_, ?_, kd, hr⟩⟩, ?_, ?_, ?_⟩ <;> omega
      · simp only [rotR, Bal, high_node]
        refine ⟨⟨?_, ?_, ka, ⟨?_, ?_, kb, hr⟩⟩, ?_, ?_, ?_⟩ <;> omega
  · split
    · rename_i h0 h
      cases r with
      | nil => simp at h
      | node gr rr a b =>
        obtain ⟨k1, k2, ka, kb⟩ := hr
        simp only [high_node] at h0 h h1 h2 ⊢
        have e : (node gr rr a b).fixR = if b.high < a.high then rotR gr rr a b else node gr rr a b := rfl
        rw [e]
        split
        · cases a with
          | nil => rename_i h3; simp at h3
          | node ga ra c d =>
            obtain ⟨m1, m2, kc, kd⟩ := ka
            simp only [high_node] at *
            simp only [rotL, rotR, Bal, high_node]
            refine ⟨⟨?_, ?_, ⟨?_, ?_, hl, kc⟩, ⟨?_, ?_, kd, kb⟩⟩, ?_, ?_, ?_⟩ <;> omega
        · simp only [rotL, Bal, high_node]
          refine ⟨⟨?_, ?_, ⟨?_, ?_, hl, ka⟩, kb⟩, ?_, ?_, ?_⟩ <;> omega
    · rename_i h0 h
      simp only [Bal, high_node]
      exact ⟨⟨by omega, by omega, hl, hr⟩, by omega, by omega, fun _ _ => trivial⟩
theorem addT_bal {x t : RT} (hx : Bal x) (hx1 : x.high = 1) (ht : Bal t) (k : Nat) : Bal (addT x t k) ∧ t.high ≤ (addT x t k).high ∧ (addT x t k).high ≤ t.high + 1 := by
  induction t generalizing k with
  | nil => exact ⟨hx, by simp, by simp [addT, hx1]⟩
  | node g rs l r ihl ihr =>
    obtain ⟨k1, k2, kl, kr⟩ := ht
    unfold addT
    rw [high_node]
    split
    · obtain ⟨b1, b2, b3⟩ := ihl kl k
      obtain ⟨c1, c2, c3, c4⟩ := lvl_bal (g := g) (rs := rs) b1 kr (by omega) (by omega)
      refine ⟨c1, ?_, by omega⟩
      by_cases h : (addT x l k).high ≤ r.high + 1
      · have := c4 h (by omega); omega
      · omega
    · obtain ⟨b1, b2, b3⟩ := ihr kr (k - bl l.runes - bl rs)
      obtain ⟨c1, c2, c3, c4⟩ := lvl_bal (g := g) (rs := rs) kl b1 (by omega) (by omega)
      refine ⟨c1, ?_, by omega⟩
      by_cases h : (addT x r (k - bl l.runes - bl rs)).high ≤ l.high + 1
      · have := c4 (by omega) h; omega
      · omega
theorem takeT_bal {t : RT} (ht : Bal t) (k : Nat) : Bal (takeT t k) ∧ t.high ≤ (takeT t k).high + 1 ∧ (takeT t k).high ≤ t.high := by
  induction t generalizing k with
  | nil => exact ⟨trivial, by simp [takeT], by simp [takeT]⟩
  | node g rs l r ihl ihr =>
    obtain ⟨k1, k2, kl, kr⟩ := ht
    have hR : ∀ (k : Nat) (rs : List Int), Bal (lvl g rs l (takeT r k)) ∧ 1 + max l.high r.high ≤ (lvl g rs l (takeT r k)).high + 1 ∧ (lvl g rs l (takeT r k)).high ≤ 1 + max l.high r.high := by
      intro k rs
      obtain ⟨b1, b2, b3⟩ := ihr kr k
      obtain ⟨c1, c2, c3, c4⟩ := lvl_bal (g := g) (rs := rs) kl b1 (by omega) (by omega)
      refine ⟨c1, ?_, by omega⟩
      by_cases h : l.high ≤ (takeT r k).high + 1
      · have := c4 h (by omega); omega
      · omega
    unfold takeT
    rw [high_node]
    split
    · obtain ⟨b1, b2, b3⟩ := ihl kl k
      obtain ⟨c1, c2, c3, c4⟩ := lvl_bal (g := g) (rs := rs) b1 kr (by omega) (by omega)
      refine ⟨c1, ?_, by omega⟩
      by_cases h : r.high ≤ (takeT l k).high + 1
      · have := c4 (by omega) h; omega
      · omega
    · split
      · exact hR _ _
      · split
        · rename_i h; obtain rfl := isNil_iff.1 h; exact ⟨kr, by simp; omega, by simp⟩
        · split
          · rename_i h; obtain rfl := isNil_iff.1 h; exact ⟨kl, by simp; omega, by simp⟩
          · exact hR _ _
theorem bal_nodes {t : RT} (h : Bal t) : 2 ^ (t.high / 2) ≤ t.nodes.length + 1 := by
  suffices hh : ∀ n (t : RT), Bal t → n ≤ t.high → 2 ^ (n / 2) ≤ t.nodes.length + 1 from hh _ t h (Nat.le_refl _)
  intro n
  induction n using Nat.strongRecOn with
  | _ n ih =>
    intro t h hn
    by_cases h2 : n < 2
    · have : n / 2 = 0 := by omega
      rw [this]; simp
    · cases t with
      | nil => simp at hn; omega
      | node g rs l r =>
        obtain ⟨k1, k2, kl, kr⟩ := h
        simp only [high_node] at hn
        have a := ih (n - 2) (by omega) l kl (by omega)
        have b := ih (n - 2) (by omega) r kr (by omega)
        have e : n / 2 = (n - 2) / 2 + 1 := by omega
        rw [e, Nat.pow_succ, nodes_node, List.length_append, List.length_cons]
        omega
end RT
end Go.Proofs.YtdgdajnbkfmijaaGreatDoor
/- An argument that is a list of says, opened: three whole numbers and an operation each. -/
namespace Go.Proofs.YtdgdajnbkfmijaaGreatDoor
open Go.ChangeShapes Go.WideShapes Go.ChangeAt Go.RowKit
set_option maxRecDepth 100000
theorem say_cellsOf : Tryz.prog.cellsOf 38 = 4 := by kernel_rfl
theorem say_fields : Tryz.prog.underlying 38 = some (.struct (Tryz.prog.fieldsOf 38)) := by kernel_rfl
theorem say_list : (Tryz.prog.fieldsOf 38).toList.map (fun f => (f.name, f.type, f.offset)) = [("Client", 3, 0), ("Id", 3, 1), ("Rev", 3, 2), ("Op", 36, 3)] := by kernel_rfl
theorem say_size : Tryz.prog.cellsOf 3 = 1 ∧ Tryz.prog.cellsOf 36 = 1 := ⟨by kernel_rfl, by kernel_rfl⟩
section
variable {H : Type} {enc : TypeId × Value → H} {w : World} {base : Nat}
theorem open_say {n : Nat} {cs : List Value} {x : DataW H × List MemPlace} (h : DataW.trod enc Tryz.prog w base (fun _ => true) true n 38 cs = some x) :
    ∃ p : SAY, cs = p.cells ∧ p.Ok w := by
  obtain ⟨xs, n', _, rfl, hcs, hxs, hf⟩ := DataW.trod_struct say_fields h
  rw [say_cellsOf] at hcs
  obtain ⟨f0, f1, f2, f3, hl, h0, h1, h2, h3⟩ := four_of_map _ say_list
  simp only [Prod.mk.injEq] at h0 h1 h2 h3
  have hsz : (Tryz.prog.fieldsOf 38).size = 4 := by rw [← Array.length_toList, hl]; rfl
  rw [hsz] at hxs
  have g : ∀ i f, [f0, f1, f2, f3][i]? = some f → (Tryz.prog.fieldsOf 38)[i]? = some f := fun i f hi => by rw [← Array.getElem?_toList, hl]; exact hi
  match cs, hcs, xs, hxs with
  | [c0, c1, c2, c3], _, [x0, x1, x2, x3], _ =>
    have e0 := hf 0 f0 (g 0 f0 rfl)
    have e1 := hf 1 f1 (g 1 f1 rfl)
    have e2 := hf 2 f2 (g 2 f2 rfl)
    have e3 := hf 3 f3 (g 3 f3 rfl)
    rw [h0.2.1, h0.2.2, say_size.1] at e0
    rw [h1.2.1, h1.2.2, say_size.1] at e1
    rw [h2.2.1, h2.2.2, say_size.1] at e2
    rw [h3.2.1, h3.2.2, say_size.2] at e3
    obtain ⟨a, a1, rfl, a3⟩ := DataW.trod_int Tryz.underlying3 e0
    obtain ⟨b, b1, rfl, b3⟩ := DataW.trod_int Tryz.underlying3 e1
    obtain ⟨c, k1, rfl, k3⟩ := DataW.trod_int Tryz.underlying3 e2
    obtain ⟨v, m, l, he, hs, hln, hin⟩ := open_partsC e3
    simp at a1 b1 k1 he
    subst a1 b1 k1 he
    exact ⟨⟨a, b, c, c3, l⟩, by simp [SAY.cells], a3, b3, k3, by rw [hln]; exact hs, hin⟩
theorem open_says {r : Reach} {b0 : Nat} {v : Value} {d : DataW H} {ps : List MemPlace}
    (hval : Value.okWide Tryz.prog w r b0 22 v) (hd : DataW.Trod enc Tryz.prog w base (fun _ => true) true 22 v d ps) :
    ∃ (n : Nat) (L : List SAY), Sl w 4 v n (says L) ∧ L.length = n ∧ ∀ p ∈ L, p.Ok w := by
  obtain ⟨a0, len, cap, rfl⟩ := okWide_slice Tryz.underlying22 hval
  obtain ⟨fuel, hf⟩ := hd
  rcases Go.Deep.open_slice Tryz.underlying22 hf with ⟨hcs, hx⟩ | ⟨a, len', cap', m, n, D, Pl, hcs, _, hl, hm, hmm, hx, hi⟩
  · simp [Value.cells] at hcs
    obtain ⟨rfl, rfl, rfl⟩ := hcs
    exact ⟨0, [], Sl.nil w 4, rfl, fun p hp => by simp at hp⟩
  · simp [Value.cells] at hcs
    obtain ⟨rfl, rfl, rfl⟩ := hcs
    simp only [if_true] at hmm
    subst hmm
    rw [say_cellsOf] at hi
    have hpt : ∀ i, ∃ p : SAY, i < len → (∀ j u, p.cells[j]? = some u → w.cell? (a.add (i * 4 + j)) = some u) ∧ p.Ok w := by
      intro i
      by_cases h : i < len
      · obtain ⟨cs', hc, ht⟩ := hi i (by omega)
        obtain ⟨p, rfl, hin⟩ := open_say ht
        obtain ⟨_, _, hat⟩ := World.cells?_some hc
        refine ⟨p, fun _ => ⟨fun j u hu => ?_, hin⟩⟩
        have hj : j < 4 := by
          rcases Nat.lt_or_ge j 4 with h | h
          · exact h
          · rw [List.getElem?_eq_none (by simpa [SAY.cells] using h)] at hu; cases hu
        rw [← add_of_add, hat j hj, hu]
      · exact ⟨⟨0, 0, 0, .slice none 0 0, []⟩, fun h' => absurd h' h⟩
    obtain ⟨f, hf'⟩ := Classical.axiomOfChoice hpt
    refine ⟨len, (List.range len).map f, ⟨some a, _, rfl, by rw [says_length]; simp, hl, hm, (fun h => nomatch h), fun hn => ⟨a, rfl, ?_, ?_⟩⟩, by simp, ?_⟩
    · have h1 := (hf' 0 hn).1 0 _ rfl
      have := World.block_lt_of_cell? w _ h1
      rw [block_of_add] at this
      exact this
    · intro j u hu
      have hj : j < len * 4 := by
        rcases Nat.lt_or_ge j (len * 4) with h | h
        · exact h
        · rw [List.getElem?_eq_none (by rw [says_length]; simpa using h)] at hu; cases hu
      have hk : j / 4 < ((List.range len).map f).length := by simp; omega
      have hg : ((List.range len).map f)[j / 4] = f (j / 4) := by simp
      obtain ⟨hc, _⟩ := hf' (j / 4) (by omega)
      have ho := says_at hk (j := j % 4) (by omega)
      rw [hg, show j / 4 * 4 + j % 4 = j from by omega, hu] at ho
      have := hc (j % 4) u ho.symm
      rwa [show j / 4 * 4 + j % 4 = j from by omega] at this
    · intro p hp
      obtain ⟨i, hi', rfl⟩ := List.mem_map.1 hp
      exact (hf' i (List.mem_range.1 hi')).2
end
end Go.Proofs.YtdgdajnbkfmijaaGreatDoor
/- The condition on errors.errorType: from the hypothesis to the variable's cell, and a world that meets it. -/
namespace Go.Proofs.YtdgdajnbkfmijaaGreatDoor
open Go.ChangeShapes Go.WideShapes Go.ChangeAt Go.RowKit
theorem ownK : ownKnob Tryz.prog.godebug = none := by kernel_rfl
theorem laidOut : laidOutB Tryz.prog = true := by kernel_rfl
theorem c32 : Tryz.prog.cellsOf 21 = 1 := by kernel_rfl
theorem c16 : Tryz.prog.cellsOf 205 = 1 := by kernel_rfl
theorem laid_et : Tryz.prog.globalNamed "errors.errorType" = some 0 := by kernel_rfl
theorem laid_rt : (Tryz.prog.cutTypes.find? (·.1 == "internal/reflectlite.rtype")).map (·.2) = some 270 := by kernel_rfl
theorem laid_row : ((List.range Tryz.prog.types.size).filter fun t => Tryz.prog.rowNamed t [101, 114, 114, 111, 114]) = [25] := by kernel_rfl
theorem hdl_of_laid {W : World} (h : laidMetH Tryz.prog [("errors.errorType", Rows.laid_errors_errorType)] W) : Hdl W := by
  have h' : laidMet Tryz.prog [] W ∧ handlesMet Tryz.prog [("errors.errorType", Rows.laid_errors_errorType)] W := h
  obtain ⟨name, u, ty, e1, e2, e3, e4, e5⟩ := h'.2 _ (List.mem_singleton.2 rfl)
  have en : name = [101, 114, 114, 111, 114] := (Option.some.inj e1).symm
  subst en
  obtain rfl := Option.some.inj (laid_rt.symm.trans e2)
  have hm : ty ∈ (List.range Tryz.prog.types.size).filter fun t => Tryz.prog.rowNamed t [101, 114, 114, 111, 114] := List.mem_filter.2 ⟨List.mem_range.2 e3, e4⟩
  rw [laid_row] at hm
  obtain rfl := List.mem_singleton.1 hm
  have hh : typeHandle Tryz.prog 25 = .pointer (some ⟨2, 25, none⟩) := by kernel_rfl
  rw [hh] at e5
  have := World.var?_cell laid_et e5 0
  unfold Hdl
  simpa using this
/-- A world that meets the condition. -/
noncomputable def laidWorld (os : Os) : World :=
  let w0 := World.holding Tryz.prog os ⟨#[], #[], []⟩
  { w0 with heap := w0.heap.modify 0 fun
      | .cells _ t frozen => .cells #[.iface 270 (.agg #[.pointer (some ⟨2, 25, none⟩)])] t frozen
      | o => o }
theorem laidWorld_met (os : Os) (args : Array Value) : laidMetH Tryz.prog [("errors.errorType", Rows.laid_errors_errorType)] ((laidWorld os).forCall (fun _ _ => 0) ⟨#[], args, []⟩).memory :=
  laidMetH_of_parts (laidMet_nil _ _) (by kernel_rfl)
end Go.Proofs.YtdgdajnbkfmijaaGreatDoor
