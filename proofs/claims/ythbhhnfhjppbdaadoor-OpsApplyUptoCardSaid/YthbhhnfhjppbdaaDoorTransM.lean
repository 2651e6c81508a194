/- Transform and Compose in plain Lean, byte by byte. -/
import Derived.Test.YthbhhnfhjppbdaaDoorNormM
namespace Go.Proofs.YthbhhnfhjppbdaaDoor
/-- A unit is a byte that is put. -/
def isPut (p : PT) : Bool := p.put ≠ []
/-- One operation's bytes over what another one makes. -/
def tr (first : Bool) : List PT → List PT → List PT
  | p :: x, q :: y =>
    if isPut p = true ∧ (first = true ∨ isPut q = false) then p :: tr first x (q :: y)
    else if isPut q = true then PT.k1 :: tr first (p :: x) y
    else if q.drop = 0 then p :: tr first x y else tr first x y
  | p :: x, [] => if isPut p = true then p :: tr first x [] else []
  | [], q :: y => if isPut q = true then PT.k1 :: tr first [] y else []
  | [], [] => []
termination_by x y => x.length + y.length
theorem isPut_byte (c : UInt8) : isPut (PT.byte c) = true := rfl
theorem isPut_d1 : isPut PT.d1 = false := rfl
theorem isPut_k1 : isPut PT.k1 = false := rfl
theorem isPut_unit (x : Bool) : isPut (unit x) = false := by cases x <;> rfl
/-- Does a list begin with what is put? -/
def hput : List PT → Bool
  | [] => false
  | p :: _ => isPut p
theorem tr_put {first : Bool} (b : U.Bs) (x y : List PT) (h : first = true ∨ hput y = false) : tr first (b.map PT.byte ++ x) y = b.map PT.byte ++ tr first x y := by
  induction b with
  | nil => rfl
  | cons c b ih =>
    simp only [List.map_cons, List.cons_append]
    cases y with
    | nil => rw [tr, if_pos (isPut_byte c), ih]
    | cons q y => rw [tr, if_pos ⟨isPut_byte c, h⟩, ih]
theorem tr_keep {first : Bool} (b : U.Bs) (x y : List PT) (h : first = false ∨ hput x = false) : tr first x (b.map PT.byte ++ y) = List.replicate b.length PT.k1 ++ tr first x y := by
  induction b with
  | nil => rfl
  | cons c b ih =>
    simp only [List.map_cons, List.cons_append, List.length_cons, List.replicate_succ]
    cases x with
    | nil => rw [tr, if_pos (isPut_byte c), ih]
    | cons p x =>
      rw [tr, if_neg, if_pos (isPut_byte c), ih]
      rintro ⟨h1, h2⟩
      rw [isPut_byte] at h2
      rcases h with h | h
      · subst h; simp at h2
      · have h' : isPut p = false := h; rw [h'] at h1; exact absurd h1 (by simp)
theorem tr_both {first : Bool} (n : Nat) (u v : Bool) (x y : List PT) : tr first (List.replicate n (unit u) ++ x) (List.replicate n (unit v) ++ y) = (if v = true then [] else List.replicate n (unit u)) ++ tr first x y := by
  induction n with
  | zero => simp
  | succ n ih =>
    simp only [List.replicate_succ, List.cons_append]
    rw [tr, if_neg (by simp [isPut_unit]), if_neg (by simp [isPut_unit]), ih]
    cases v <;> simp [unit, PT.d1, PT.k1]
/-- Gap by gap: what comes of a gap and its byte. -/
def gapOut (first : Bool) (px py : U.Bs) : List PT := if first = true then px.map PT.byte ++ List.replicate py.length PT.k1 else List.replicate py.length PT.k1 ++ px.map PT.byte
def trGaps (first : Bool) : List (U.Bs × Bool) → List (U.Bs × Bool) → U.Bs → U.Bs → List PT
  | (px, dx) :: x, (py, dy) :: y, ex, ey => gapOut first px py ++ (if dy = true then [] else [unit dx]) ++ trGaps first x y ex ey
  | _, _, ex, ey => gapOut first ex ey
theorem tr_gap {first : Bool} (px py : U.Bs) (x y : List PT) (hx : hput x = false) (hy : hput y = false) : tr first (px.map PT.byte ++ x) (py.map PT.byte ++ y) = gapOut first px py ++ tr first x y := by
  unfold gapOut
  cases first with
  | true => rw [tr_put _ _ _ (.inl rfl), tr_keep _ _ _ (.inr hx)]; simp
  | false => rw [tr_keep _ _ _ (.inl rfl), tr_put _ _ _ (.inr hy)]; simp
theorem trGaps_eq {first : Bool} {x y : List (U.Bs × Bool)} (h : x.length = y.length) (ex ey : U.Bs) : trGaps first x y ex ey = tr first (SS.exp ⟨x, ex⟩) (SS.exp ⟨y, ey⟩) := by
  induction x generalizing y with
  | nil =>
    cases y with
    | nil =>
      rw [trGaps]
      · have := tr_gap (first := first) ex ey [] [] rfl rfl
        simp only [List.append_nil] at this
        simp only [SS.exp, List.flatMap_nil, List.nil_append]
        rw [this, tr]; simp
      · simp
    | cons q y => simp at h
  | cons p x ih =>
    cases y with
    | nil => simp at h
    | cons q y =>
      obtain ⟨px, dx⟩ := p
      obtain ⟨py, dy⟩ := q
      rw [trGaps, ih (by simpa using h)]
      simp only [SS.exp, List.flatMap_cons, List.append_assoc]
      rw [tr_gap _ _ _ _ (by simp [hput, isPut_unit]) (by simp [hput, isPut_unit])]
      have := tr_both (first := first) 1 dx dy (List.flatMap (fun p => p.1.map PT.byte ++ [unit p.2]) x ++ ex.map PT.byte) (List.flatMap (fun p => p.1.map PT.byte ++ [unit p.2]) y ++ ey.map PT.byte)
      simp only [List.replicate_one] at this
      rw [this]
/-- Two operations' bytes in one. -/
def cm : List PT → List PT → List PT
  | p :: x, q :: y =>
    if 0 < p.drop then p :: cm x (q :: y)
    else if isPut q = true then q :: cm (p :: x) y
    else if isPut p = true then (if 0 < q.keep then [p] else []) ++ cm x y
    else (if 0 < q.keep then [PT.k1] else [PT.d1]) ++ cm x y
  | p :: x, [] => if 0 < p.drop then p :: cm x [] else []
  | [], q :: y => if isPut q = true then q :: cm [] y else []
  | [], [] => []
termination_by x y => x.length + y.length
/-- Does a list begin with what is dropped? -/
def hdrop : List PT → Prop
  | [] => False
  | p :: _ => 0 < p.drop
theorem cm_drop (n : Nat) (x y : List PT) : cm (List.replicate n PT.d1 ++ x) y = List.replicate n PT.d1 ++ cm x y := by
  induction n with
  | zero => rfl
  | succ n ih =>
    simp only [List.replicate_succ, List.cons_append]
    cases y with
    | nil => rw [cm, if_pos (by decide), ih]
    | cons q y => rw [cm, if_pos (by decide), ih]
theorem cm_put (b : U.Bs) (x y : List PT) (h : ¬ hdrop x) : cm x (b.map PT.byte ++ y) = b.map PT.byte ++ cm x y := by
  induction b with
  | nil => rfl
  | cons c b ih =>
    simp only [List.map_cons, List.cons_append]
    cases x with
    | nil => rw [cm, if_pos (isPut_byte c), ih]
    | cons p x => rw [cm, if_neg (show ¬ 0 < p.drop from h), if_pos (isPut_byte c), ih]
theorem cm_pk (b : U.Bs) (v : Bool) (x y : List PT) : cm (b.map PT.byte ++ x) (List.replicate b.length (unit v) ++ y) = (if v = true then [] else b.map PT.byte) ++ cm x y := by
  induction b with
  | nil => cases v <;> rfl
  | cons c b ih =>
    simp only [List.map_cons, List.cons_append, List.length_cons, List.replicate_succ]
    rw [cm, if_neg (by simp [PT.byte]), if_neg (by simp [isPut_unit]), if_pos (isPut_byte c), ih]
    cases v <;> simp [unit, PT.k1, PT.d1]
theorem cm_kk (n : Nat) (v : Bool) (x y : List PT) : cm (List.replicate n PT.k1 ++ x) (List.replicate n (unit v) ++ y) = List.replicate n (unit v) ++ cm x y := by
  induction n with
  | zero => rfl
  | succ n ih =>
    simp only [List.replicate_succ, List.cons_append]
    rw [cm, if_neg (by decide), if_neg (by simp [isPut_unit]), if_neg (by simp [isPut_k1]), ih]
    cases v <;> simp [unit, PT.k1, PT.d1]
/-- A byte of what comes: of the text (its number), or put (-1). -/
structure Cl where
  from_ : Int
  c : UInt8
/-- The bytes of what an operation makes, from number at on. -/
def mcells (at_ : Nat) : List PT → List Cl
  | [] => []
  | p :: l => if isPut p = true then p.put.map (fun c => ⟨-1, c⟩) ++ mcells at_ l else if 0 < p.drop then mcells (at_ + 1) l else ⟨at_, 0⟩ :: mcells (at_ + 1) l
/-- What a second operation makes of these. -/
def ecells : List PT → List Cl → List Cl
  | [], _ => []
  | q :: y, ms => if isPut q = true then q.put.map (fun c => ⟨-1, c⟩) ++ ecells y ms else match ms with
    | [] => []
    | m :: ms => if 0 < q.keep then m :: ecells y ms else ecells y ms
theorem ecells_put {q : PT} (h : isPut q = true) (y : List PT) (ms : List Cl) : ecells (q :: y) ms = q.put.map (fun c => ⟨-1, c⟩) ++ ecells y ms := by
  cases ms <;> simp [ecells, h]
theorem ecells_cons {q : PT} (h : ¬ isPut q = true) (y : List PT) (m : Cl) (ms : List Cl) : ecells (q :: y) (m :: ms) = if 0 < q.keep then m :: ecells y ms else ecells y ms := by
  simp [ecells, h]
/-- All of a list are single bytes. -/
def Unit1 (p : PT) : Prop := (∃ c, p = PT.byte c) ∨ p = PT.d1 ∨ p = PT.k1
theorem exp_unit1 {p : PT} : ∀ q ∈ p.exp, Unit1 q := by
  intro q hq
  unfold PT.exp at hq
  split at hq
  · obtain ⟨c, _, rfl⟩ := List.mem_map.1 hq; exact .inl ⟨c, rfl⟩
  · split at hq
    · exact .inr (.inl (List.eq_of_mem_replicate hq))
    · exact .inr (.inr (List.eq_of_mem_replicate hq))
theorem expand_unit1 {l : List PT} : ∀ q ∈ expand l, Unit1 q := by
  intro q hq
  unfold expand at hq
  obtain ⟨p, _, h⟩ := List.mem_flatMap.1 hq
  exact exp_unit1 q h
/-- How many bytes units take of the text, and make. -/
def uwas : List PT → Nat
  | [] => 0
  | p :: l => (if isPut p = true then 0 else 1) + uwas l
def ucomes : List PT → Nat
  | [] => 0
  | p :: l => (if 0 < p.drop then 0 else 1) + ucomes l
theorem cm_cells {x y : List PT} (hx : ∀ p ∈ x, Unit1 p) (hy : ∀ p ∈ y, Unit1 p) (h : ucomes x = uwas y) (at_ : Nat) : mcells at_ (cm x y) = ecells y (mcells at_ x) ∧ uwas (cm x y) = uwas x ∧ ∀ p ∈ cm x y, Unit1 p := by
  induction x, y using cm.induct generalizing at_ with
  | case1 p x q y hd ih =>
    rw [cm, if_pos hd]
    obtain rfl : p = PT.d1 := by
      rcases hx p (by simp) with ⟨c, rfl⟩ | h | rfl
      · simp [PT.byte] at hd
      · exact h
      · simp [PT.k1] at hd
    obtain ⟨h1, h2, h3⟩ := ih (fun p hp => hx p (by simp [hp])) hy (by simpa [ucomes, PT.d1] using h) (at_ + 1)
    refine ⟨?_, ?_, ?_⟩
    · rw [mcells, if_neg (by simp [isPut_d1]), if_pos (by decide), h1, mcells, if_neg (by simp [isPut_d1]), if_pos (by decide)]
    · rw [uwas, uwas, h2]
    · intro p hp
      rcases List.mem_cons.1 hp with rfl | hp
      · exact .inr (.inl rfl)
      · exact h3 p hp
  | case2 p x q y hd hq ih =>
    rw [cm, if_neg hd, if_pos hq]
    obtain ⟨c, rfl⟩ : ∃ c, q = PT.byte c := by
      rcases hy q (by simp) with h | rfl | rfl
      · exact h
      · simp [isPut_d1] at hq
      · simp [isPut_k1] at hq
    obtain ⟨h1, h2, h3⟩ := ih hx (fun p hp => hy p (by simp [hp])) (by rw [h, uwas, if_pos hq]; omega) at_
    refine ⟨?_, ?_, ?_⟩
    · simp only [mcells, if_pos hq]; rw [h1, ecells_put hq]; rfl
    · simp only [uwas, if_pos hq]; rw [h2]; simp [uwas]
    · intro p hp
      rcases List.mem_cons.1 hp with rfl | hp
      · exact .inl ⟨c, rfl⟩
      · exact h3 p hp
  | case3 p x q y hd hq hp ih =>
    rw [cm, if_neg hd, if_neg hq, if_pos hp]
    obtain ⟨c, rfl⟩ : ∃ c, p = PT.byte c := by
      rcases hx p (by simp) with h | rfl | rfl
      · exact h
      · simp [isPut_d1] at hp
      · simp [isPut_k1] at hp
    obtain ⟨h1, h2, h3⟩ := ih (fun p hp => hx p (by simp [hp])) (fun p hp => hy p (by simp [hp])) (by simp only [ucomes, uwas, if_neg hd, if_neg hq] at h; omega) at_
    have e : mcells at_ (PT.byte c :: x) = ⟨-1, c⟩ :: mcells at_ x := by rw [mcells, if_pos hp]; rfl
    rw [e, ecells_cons hq]
    by_cases hk : 0 < q.keep
    · simp only [if_pos hk, List.singleton_append]
      refine ⟨?_, ?_, ?_⟩
      · rw [mcells, if_pos hp, h1]; rfl
      · rw [uwas, if_pos hp, h2, uwas, if_pos hp]
      · intro p hp
        rcases List.mem_cons.1 hp with rfl | hp
        · exact .inl ⟨c, rfl⟩
        · exact h3 p hp
    · simp only [if_neg hk, List.nil_append]
      exact ⟨h1, by rw [h2, uwas, if_pos hp]; omega, h3⟩
  | case4 p x q y hd hq hp ih =>
    rw [cm, if_neg hd, if_neg hq, if_neg hp]
    obtain rfl : p = PT.k1 := by
      rcases hx p (by simp) with ⟨c, rfl⟩ | rfl | h
      · simp [isPut_byte] at hp
      · simp [PT.d1] at hd
      · exact h
    obtain ⟨h1, h2, h3⟩ := ih (fun p hp => hx p (by simp [hp])) (fun p hp => hy p (by simp [hp])) (by simp only [ucomes, uwas, if_neg hd, if_neg hq] at h; omega) (at_ + 1)
    have e : mcells at_ (PT.k1 :: x) = ⟨at_, 0⟩ :: mcells (at_ + 1) x := by rw [mcells, if_neg hp, if_neg hd]
    rw [e, ecells_cons hq]
    by_cases hk : 0 < q.keep
    · simp only [if_pos hk, List.singleton_append]
      refine ⟨?_, ?_, ?_⟩
      · rw [mcells, if_neg hp, if_neg hd, h1]
      · rw [uwas, h2, uwas]
      · intro p hp
        rcases List.mem_cons.1 hp with rfl | hp
        · exact .inr (.inr rfl)
        · exact h3 p hp
    · simp only [if_neg hk, List.singleton_append]
      refine ⟨?_, ?_, ?_⟩
      · rw [mcells, if_neg (by simp [isPut_d1]), if_pos (by decide), h1]
      · rw [uwas, h2, uwas]; rfl
      · intro p hp
        rcases List.mem_cons.1 hp with rfl | hp
        · exact .inr (.inl rfl)
        · exact h3 p hp
  | case5 p x hd ih =>
    rw [cm, if_pos hd]
    obtain rfl : p = PT.d1 := by
      rcases hx p (by simp) with ⟨c, rfl⟩ | h | rfl
      · simp [PT.byte] at hd
      · exact h
      · simp [PT.k1] at hd
    obtain ⟨h1, h2, h3⟩ := ih (fun p hp => hx p (by simp [hp])) hy (by simpa [ucomes, PT.d1] using h) (at_ + 1)
    refine ⟨?_, ?_, ?_⟩
    · rw [mcells, if_neg (by simp [isPut_d1]), if_pos (by decide), h1]; rfl
    · rw [uwas, uwas, h2]
    · intro p hp
      rcases List.mem_cons.1 hp with rfl | hp
      · exact .inr (.inl rfl)
      · exact h3 p hp
  | case6 p x hd => simp [ucomes, uwas, if_neg hd] at h
  | case7 q y hq ih =>
    rw [cm, if_pos hq]
    obtain ⟨c, rfl⟩ : ∃ c, q = PT.byte c := by
      rcases hy q (by simp) with h | rfl | rfl
      · exact h
      · simp [isPut_d1] at hq
      · simp [isPut_k1] at hq
    obtain ⟨h1, h2, h3⟩ := ih hx (fun p hp => hy p (by simp [hp])) (by rw [h, uwas, if_pos hq]; omega) at_
    refine ⟨?_, ?_, ?_⟩
    · simp only [mcells, if_pos hq]; rw [h1, ecells_put hq]; rfl
    · simp only [uwas, if_pos hq]; rw [h2]; simp [uwas]
    · intro p hp
      rcases List.mem_cons.1 hp with rfl | hp
      · exact .inl ⟨c, rfl⟩
      · exact h3 p hp
  | case8 q y hq => simp only [ucomes, uwas, if_neg hq] at h; omega
  | case9 => rw [cm]; exact ⟨rfl, rfl, fun p hp => by simp at hp⟩
/-- The gaps behind one cell more; at the end. -/
def SS.cell (s : SS) (x : Cl) : SS := if x.from_ < 0 then ⟨s.l, s.e ++ [x.c]⟩ else SS.take false 1 (SS.take true (x.from_.toNat - s.l.length) s)
def SS.full (n : Nat) (s : SS) : SS := SS.take true (n - s.l.length) s
def gaps (n : Nat) (l : List Cl) : SS := (l.foldl SS.cell .zero).full n
theorem SS.take_len (x : Bool) (k : Nat) (s : SS) : (SS.take x k s).l.length = s.l.length + k := by
  induction k generalizing s with
  | zero => rfl
  | succ k ih => rw [SS.take, ih]; simp; omega
theorem nrun_comm (s : NS) (k : Nat) (c : UInt8) : nrun (nrun s (List.replicate k PT.d1)) [PT.byte c] = nrun (nrun s [PT.byte c]) (List.replicate k PT.d1) := by
  have h := fun s : NS => nrun_bytes s [c]
  simp only [List.map_cons, List.map_nil] at h
  rw [h, h, nrun_d1, nrun_d1]
theorem gaps_run {u : List PT} (hu : ∀ p ∈ u, Unit1 p) (s : SS) (at_ : Nat) (h : s.l.length ≤ at_) :
    nrun .zero (((mcells at_ u).foldl SS.cell s).full (at_ + uwas u)).exp = nrun (nrun (nrun .zero s.exp) (List.replicate (at_ - s.l.length) PT.d1)) u := by
  induction u generalizing s at_ with
  | nil =>
    simp only [mcells, List.foldl_nil, uwas, Nat.add_zero, SS.full]
    rw [SS.exp_take, nrun_append]; rfl
  | cons p u ih =>
    have hu' : ∀ p ∈ u, Unit1 p := fun q hq => hu q (by simp [hq])
    rcases hu p (by simp) with ⟨c, rfl⟩ | rfl | rfl
    · rw [mcells, if_pos (isPut_byte c), uwas, if_pos (isPut_byte c), Nat.zero_add]
      simp only [PT.byte, List.map_cons, List.map_nil, List.singleton_append, List.foldl_cons]
      have e : SS.cell s ⟨-1, c⟩ = ⟨s.l, s.e ++ [c]⟩ := by unfold SS.cell; rw [if_pos (show (-1 : Int) < 0 by decide)]
      rw [e, ih hu' ⟨s.l, s.e ++ [c]⟩ at_ h]
      have e2 : (⟨s.l, s.e ++ [c]⟩ : SS).exp = s.exp ++ [PT.byte c] := by simp [SS.exp]
      rw [e2, nrun_append, nrun_cons]
      change nrun (nrun (nrun _ [PT.byte c]) _) u = nrun (nrun (nrun _ _) [PT.byte c]) u
      rw [nrun_comm]
    · rw [mcells, if_neg (by simp [isPut_d1]), if_pos (by decide), uwas, if_neg (by simp [isPut_d1]), ← Nat.add_assoc, ih hu' s (at_ + 1) (by omega), nrun_cons,
        show at_ + 1 - s.l.length = (at_ - s.l.length) + 1 from by omega, List.replicate_succ', nrun_append]
      rfl
    · rw [mcells, if_neg (by simp [isPut_k1]), if_neg (by decide), uwas, if_neg (by simp [isPut_k1]), ← Nat.add_assoc, List.foldl_cons]
      have e : SS.cell s ⟨at_, 0⟩ = SS.take false 1 (SS.take true (at_ - s.l.length) s) := by
        unfold SS.cell
        rw [if_neg (by simp)]
        simp
      have hl : (SS.take false 1 (SS.take true (at_ - s.l.length) s)).l.length = at_ + 1 := by rw [SS.take_len, SS.take_len]; omega
      rw [e, ih hu' _ (at_ + 1) (by omega), hl, SS.exp_take, SS.exp_take, Nat.sub_self, nrun_append, nrun_append, nrun_cons]
      rfl
/-- The document's composition, as gaps, is Norm of the bytes. -/
theorem gaps_eq {u : List PT} (hu : ∀ p ∈ u, Unit1 p) : gather (gaps (uwas u) (mcells 0 u)) = (nrun .zero u).all := by
  have h := gaps_run hu .zero 0 (by simp [SS.zero])
  rw [Nat.zero_add] at h
  rw [gather_eq, gaps, h]; rfl
end Go.Proofs.YthbhhnfhjppbdaaDoor
