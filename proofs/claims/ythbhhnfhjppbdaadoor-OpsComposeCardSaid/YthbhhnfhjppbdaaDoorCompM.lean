/- The reference's Compose in plain Lean: its cells. -/
import Derived.Test.YthbhhnfhjppbdaaDoorRefG
import Derived.Test.YthbhhnfhjppbdaaDoorOpXT
namespace Go.Proofs.YthbhhnfhjppbdaaDoor
open Go.RowKit
theorem mcells_append (a : Nat) (u v : List PT) : mcells a (u ++ v) = mcells a u ++ mcells (a + uwas u) v := by
  induction u generalizing a with
  | nil => simp [mcells, uwas]
  | cons p u ih =>
    rw [List.cons_append, mcells, mcells, uwas]
    by_cases h : isPut p = true
    · rw [if_pos h, if_pos h, if_pos h, ih, List.append_assoc, Nat.zero_add]
    · rw [if_neg h, if_neg h, if_neg h]
      by_cases hd : 0 < p.drop
      · rw [if_pos hd, if_pos hd, ih, Nat.add_assoc]
      · rw [if_neg hd, if_neg hd, ih, List.cons_append, Nat.add_assoc]
theorem exp_all {p : PT} (h : p.arg) : p.exp = List.replicate p.keep.toNat PT.k1 ++ p.put.map PT.byte ++ List.replicate p.drop.toNat PT.d1 := by
  rcases h.cases with ⟨b, hb, rfl⟩ | ⟨n, hn, rfl⟩ | ⟨n, hn, rfl⟩
  · rw [exp_put]; simp
  · rw [exp_drop]; simp
  · rw [exp_keep]; simp
theorem uwas_k (n : Nat) : uwas (List.replicate n PT.k1) = n := uwas_unit n false
theorem uwas_d (n : Nat) : uwas (List.replicate n PT.d1) = n := uwas_unit n true
theorem mcells_k (a : Nat) : mcells a [PT.k1] = [⟨a, 0⟩] := by rw [mcells, if_neg (by simp [isPut_k1]), if_neg (by decide), mcells]
theorem mcells_b (a : Nat) (c : UInt8) : mcells a [PT.byte c] = [⟨-1, c⟩] := by rw [mcells, if_pos (isPut_byte c), mcells]; rfl
theorem mcells_d (a n : Nat) : mcells a (List.replicate n PT.d1) = [] := by
  induction n generalizing a with
  | zero => rfl
  | succ n ih => rw [List.replicate_succ, mcells, if_neg (by simp [isPut_d1]), if_pos (by decide), ih]
theorem mcells_len {u : List PT} (hu : ∀ p ∈ u, Unit1 p) (a : Nat) : (mcells a u).length = ucomes u := by
  induction u generalizing a with
  | nil => rfl
  | cons p u ih =>
    have ih' := ih (fun q hq => hu q (by simp [hq]))
    rcases hu p (by simp) with ⟨c, rfl⟩ | rfl | rfl
    · rw [mcells, if_pos (isPut_byte c), ucomes, if_neg (by simp [PT.byte]), List.length_append, ih']; simp [PT.byte]
    · rw [mcells, if_neg (by simp [isPut_d1]), if_pos (by decide), ucomes, if_pos (by decide), ih']; omega
    · rw [mcells, if_neg (by simp [isPut_k1]), if_neg (by decide), ucomes, if_neg (by decide), List.length_cons, ih']; omega
theorem ecells_append {v : List PT} (y : List PT) {ms : List Cl} (h : uwas v ≤ ms.length) : ecells (v ++ y) ms = ecells v ms ++ ecells y (ms.drop (uwas v)) := by
  induction v generalizing ms with
  | nil => simp [ecells, uwas]
  | cons q v ih =>
    rw [List.cons_append]
    by_cases hq : isPut q = true
    · rw [uwas, if_pos hq, Nat.zero_add] at h ⊢
      rw [ecells_put hq, ecells_put hq, ih h, List.append_assoc]
    · rw [uwas, if_neg hq] at h ⊢
      cases ms with
      | nil => simp at h
      | cons m ms =>
        have h' : uwas v ≤ ms.length := by simp only [List.length_cons] at h; omega
        rw [ecells_cons hq, ecells_cons hq, ih h', show 1 + uwas v = uwas v + 1 from by omega, List.drop_succ_cons]
        split <;> rfl
theorem ecells_k (n : Nat) (ms : List Cl) : ecells (List.replicate n PT.k1) ms = ms.take n := by
  induction n generalizing ms with
  | zero => cases ms <;> rfl
  | succ n ih =>
    rw [List.replicate_succ]
    cases ms with
    | nil => simp [ecells, isPut_k1]
    | cons m ms => rw [ecells_cons (by simp [isPut_k1]), if_pos (by decide), ih, List.take_succ_cons]
theorem ecells_b (c : UInt8) (ms : List Cl) : ecells [PT.byte c] ms = [⟨-1, c⟩] := by rw [ecells_put (isPut_byte c)]; cases ms <;> rfl
theorem ecells_d (n : Nat) (ms : List Cl) : ecells (List.replicate n PT.d1) ms = [] := by
  induction n generalizing ms with
  | zero => cases ms <;> rfl
  | succ n ih =>
    rw [List.replicate_succ]
    cases ms with
    | nil => simp [ecells, isPut_d1]
    | cons m ms => rw [ecells_cons (by simp [isPut_d1]), if_neg (by decide), ih]
/-- Numbers of a text's bytes, going up. -/
def Asc (n : Nat) : Nat → List Cl → Prop
  | _, [] => True
  | lo, x :: r => if x.from_ < 0 then Asc n lo r else ((lo : Int) ≤ x.from_ ∧ x.from_ < n ∧ Asc n (x.from_.toNat + 1) r)
theorem mcells_asc {u : List PT} (hu : ∀ p ∈ u, Unit1 p) (lo a n : Nat) (h : lo ≤ a) (hn : a + uwas u ≤ n) : Asc n lo (mcells a u) := by
  induction u generalizing a lo with
  | nil => trivial
  | cons p u ih =>
    have ih' := ih (fun q hq => hu q (by simp [hq]))
    rcases hu p (by simp) with ⟨c, rfl⟩ | rfl | rfl
    · rw [uwas, if_pos (isPut_byte c)] at hn
      rw [mcells, if_pos (isPut_byte c)]
      simp only [PT.byte, List.map_cons, List.map_nil, List.singleton_append]
      rw [Asc, if_pos (show (-1 : Int) < 0 by decide)]
      exact ih' lo a h (by omega)
    · rw [uwas, if_neg (by simp [isPut_d1])] at hn
      rw [mcells, if_neg (by simp [isPut_d1]), if_pos (by decide)]
      exact ih' lo (a + 1) (by omega) (by omega)
    · rw [uwas, if_neg (by simp [isPut_k1])] at hn
      rw [mcells, if_neg (by simp [isPut_k1]), if_neg (by decide), Asc, if_neg (by dsimp only; omega)]
      refine ⟨by dsimp only; omega, by dsimp only; omega, ?_⟩
      dsimp only
      rw [Int.toNat_natCast]
      exact ih' (a + 1) (a + 1) (Nat.le_refl _) (by omega)
/-- Which bytes are dropped, where all that is not yet seen is. -/
def SS.padT (S : SS) (N : Nat) : List Bool := S.D ++ List.replicate (N - S.l.length) true
theorem SS.padT_set {S : SS} {N i : Nat} (h1 : S.l.length ≤ i) (h2 : i < N) : (S.padT N).set i false = (SS.take false 1 (SS.take true (i - S.l.length) S)).padT N := by
  unfold SS.padT
  rw [SS.take_D, SS.take_D, SS.take_len, SS.take_len]
  obtain ⟨m, rfl⟩ : ∃ m, i = S.l.length + m := ⟨i - S.l.length, by omega⟩
  obtain ⟨r, hr⟩ : ∃ r, N - S.l.length = m + (r + 1) := ⟨N - S.l.length - m - 1, by omega⟩
  have e1 : S.l.length + m - S.l.length = m := by omega
  have e2 : N - (S.l.length + m + 1) = r := by omega
  rw [e1, e2, hr, ← List.replicate_append_replicate, List.replicate_succ, List.set_append_right _ _ (by rw [SS.D_length]; omega), SS.D_length, e1, List.set_append_right _ _ (by simp)]
  simp [List.replicate_succ]
theorem SS.padT_len (S : SS) (N : Nat) (h : S.l.length ≤ N) : (S.padT N).length = N := by unfold SS.padT; rw [List.length_append, SS.D_length, List.length_replicate]; omega
theorem SS.full_P (S : SS) (N : Nat) : (S.full N).P = S.padP N := by unfold SS.full SS.padP; rw [SS.take_P]
theorem SS.full_D (S : SS) (N : Nat) : (S.full N).D = S.padT N := by unfold SS.full SS.padT; rw [SS.take_D]
theorem SS.full_len (S : SS) (N : Nat) (h : S.l.length ≤ N) : (S.full N).l.length = N := by unfold SS.full; rw [SS.take_len]; omega
theorem SS.cell_put {S : SS} {x : Cl} (h : x.from_ < 0) : S.cell x = ⟨S.l, S.e ++ [x.c]⟩ := by unfold SS.cell; rw [if_pos h]
theorem SS.cell_text {S : SS} {x : Cl} (h : ¬ x.from_ < 0) : S.cell x = SS.take false 1 (SS.take true (x.from_.toNat - S.l.length) S) := by unfold SS.cell; rw [if_neg h]
theorem set_true (i r : Nat) : (List.replicate i true ++ List.replicate (r + 1) false).set i true = List.replicate (i + 1) true ++ List.replicate r false := by
  rw [List.replicate_succ (n := r), List.set_append_right _ _ (by simp), List.length_replicate, Nat.sub_self, List.set_cons_zero, List.replicate_succ' (n := i), List.append_assoc]; rfl
/-- A cell in memory. -/
abbrev Cl.cells (x : Cl) : List Value := [.int .i64 x.from_, .int .u8 (x.c.toNat : Int)]
def clv (l : List Cl) : List Value := l.flatMap Cl.cells
theorem clv_length (l : List Cl) : (clv l).length = l.length * 2 := by
  unfold clv
  induction l with
  | nil => rfl
  | cons p l ih => rw [List.flatMap_cons, List.length_append, ih]; simp; omega
theorem clv_append (a b : List Cl) : clv (a ++ b) = clv a ++ clv b := by unfold clv; rw [List.flatMap_append]
theorem clv_one (x : Cl) : clv [x] = x.cells := by simp [clv]
theorem clv_oc (l : List Cl) : ∀ u ∈ clv l, u.oneCell' = true := by
  intro u hu
  unfold clv at hu
  obtain ⟨x, _, h⟩ := List.mem_flatMap.1 hu
  simp [Cl.cells] at h
  rcases h with rfl | rfl <;> rfl
theorem clv_at {l : List Cl} {k : Nat} (hk : k < l.length) : (clv l)[2 * k]? = some (.int .i64 l[k].from_) ∧ (clv l)[2 * k + 1]? = some (.int .u8 (l[k].c.toNat : Int)) := by
  induction l generalizing k with
  | nil => simp at hk
  | cons p l ih =>
    have e : clv (p :: l) = p.cells ++ clv l := by simp [clv]
    rw [e]
    cases k with
    | zero => simp [Cl.cells]
    | succ k =>
      have hl : k < l.length := by simpa using hk
      obtain ⟨h1, h2⟩ := ih hl
      rw [show 2 * (k + 1) = 2 + 2 * k from by omega]
      simp only [Cl.cells, List.getElem_cons_succ]
      refine ⟨?_, ?_⟩
      · rw [List.getElem?_append_right (by simp)]; simpa using h1
      · rw [List.getElem?_append_right (by simp; omega)]; rw [← h2]; congr 1; simp; omega
/-- Element k of a slice of cells. -/
theorem Sl.cl {w : World} {l : List Cl} {v : Value} {n : Nat} (h : Sl w 2 v n (clv l)) {k : Nat} (hk : k < n) (hl : k < l.length) : ∃ b o c, v = .slice (some ⟨b, o, none⟩) n c ∧ b < w.heap.size ∧ w.cell? ⟨b, o + k * 2, none⟩ = some (.int .i64 l[k].from_) ∧ w.cell? ⟨b, o + k * 2 + 1, none⟩ = some (.int .u8 (l[k].c.toNat : Int)) := by
  obtain ⟨A, c, rfl, h2, _, _, _, h5⟩ := h
  obtain ⟨ad, rfl, hb, hc⟩ := h5 (by omega)
  obtain ⟨h1, h2⟩ := clv_at hl
  have c1 := hc _ _ h1
  have c2 := hc _ _ h2
  obtain ⟨b, o, p⟩ := ad
  have hp : p = none := by
    have hz := hc 0 (.int .i64 (l[0]'(by omega)).from_) (by have := (clv_at (l := l) (k := 0) (by omega)).1; simpa using this)
    have : (⟨b, o, p⟩ : Addr).add 0 = ⟨b, o, p⟩ := by unfold Addr.add; rfl
    rw [this] at hz
    cases p with
    | none => rfl
    | some x => unfold World.cell? at hz; split at hz <;> simp at hz
  subst hp
  simp only [add_mk] at c1 c2
  rw [Nat.mul_comm 2 k] at c1 c2
  exact ⟨b, o, c, rfl, hb, c1, by rw [← c2, Nat.add_assoc]⟩
/-- A part of a slice of cells. -/
theorem Sl.sub {w : World} {l : List Cl} {b o n c i m : Nat} (h : Sl w 2 (.slice (some ⟨b, o, none⟩) n c) n (clv l)) (him : i + m ≤ n) :
    (i = c → Sl w 2 (.slice (some ⟨b, o, none⟩) 0 0) 0 (clv ((l.drop i).take m)) ∧ m = 0) ∧ Sl w 2 (.slice (some ⟨b, o + i * 2, none⟩) m (c - i)) m (clv ((l.drop i).take m)) := by
  obtain ⟨A, c', hv, h2, h3, h4, h4', h5⟩ := h
  cases hv
  have hln : l.length = n := by rw [clv_length] at h2; omega
  have hlm : (clv ((l.drop i).take m)).length = m * 2 := by rw [clv_length, List.length_take, List.length_drop]; omega
  refine ⟨fun hi => ?_, ?_⟩
  · have hm : m = 0 := by omega
    subst hm
    exact ⟨⟨_, _, rfl, hlm, Nat.le_refl _, by unfold maxLen; omega, (fun h => nomatch h), fun h => absurd h (by omega)⟩, rfl⟩
  · refine ⟨_, _, rfl, hlm, by omega, by omega, (fun h => nomatch h), fun hm => ?_⟩
    obtain ⟨ad, had, hb, hc⟩ := h5 (by omega)
    cases had
    refine ⟨_, rfl, hb, fun j u hu => ?_⟩
    have hj : j < m * 2 := by
      rcases Nat.lt_or_ge j (m * 2) with h | h
      · exact h
      · rw [List.getElem?_eq_none (by omega)] at hu; cases hu
    have := hc (i * 2 + j) u (by
      have e : clv l = clv (l.take i) ++ (clv ((l.drop i).take m) ++ clv ((l.drop i).drop m)) := by
        rw [← clv_append, ← clv_append, List.take_append_drop, List.take_append_drop]
      rw [e, List.getElem?_append_right (by rw [clv_length, List.length_take]; omega), clv_length, List.length_take, show i * 2 + j - min i l.length * 2 = j from by omega, List.getElem?_append_left (by omega)]
      exact hu)
    rw [add_mk] at this ⊢
    rwa [Nat.add_assoc]
section
variable {P : Program} {ops : Array Oper} {Q : Exit → Act → World → Prop} {a : Act} {W : World} {rest : List Oper} {o : Oper} {s x : Operand} {t e : TypeId} {size bytes base n m : Nat} {v : Value} {xs : List Value}
/-- append(own, src...), as append_sl; and where the new row lies. -/
theorem append_sl' (E : El P t e size bytes) (ys : List Value) (u : Value) (hown : W.ownsRow base e size v n xs) (hsl : Sl W size u m ys) (hgd : o.guard = none)
    (ho : o.op = .call { callee := .builtin .append, args := #[s, x], argTypes := #[t, t] }) (hs : a.eval s = v) (hx : a.eval x = u)
    (h1 : ∀ u ∈ ys, u.oneCell' = true) (h63 : n + m ≤ maxLen) (hbytes : (n + m) * bytes ≤ 140737488355328) (hbase : base ≤ W.heap.size)
    (h : ∀ v' w', w'.ownsRow base e size v' (n + m) (xs ++ ys) → Below base W w' → W.grownBy w' v.ownBlock → (∀ k, v'.ownBlock = some k → v.ownBlock = some k ∨ W.heap.size ≤ k) → wpList P ops Q rest (a.put o.dst v') w') : wpList P ops Q (o :: rest) a W := by
  obtain ⟨i, z, hi, hz, hsi, hby, hzs⟩ := E.hi
  have hlt := hown.lt
  have fin : ∀ v' w', w'.ownsRow base e size v' (n + m) (xs ++ ys) → W.grownBy w' v.ownBlock → (∀ k, v'.ownBlock = some k → v.ownBlock = some k ∨ W.heap.size ≤ k) → wpList P ops Q rest (a.put o.dst v') w' := fun v' w' ho' hg' hk => by
    refine h v' w' ho' ⟨hg'.os, hg'.tape, hg'.output, hg'.size, fun k hk => ?_⟩ hg' hk
    exact hg'.block k (by omega) (fun e => by have := hlt k e.symm; omega)
  obtain ⟨A, c, rfl, hl, _, _, h4, h5⟩ := hsl
  cases A with
  | none =>
    have hm : m = 0 := by
      rcases Nat.eq_zero_or_pos m with h | h
      · exact h
      · obtain ⟨ad, hh, _⟩ := h5 h
        cases hh
    subst hm
    obtain rfl := h4 rfl
    have hy : ys = [] := List.eq_nil_of_length_eq_zero (by simpa using hl)
    subst hy
    refine wpList_append_own_none hgd s x t ho base e i size E.ht hi v n xs hs hown hx ?_
    refine fin v W ?_ ⟨rfl, rfl, rfl, Nat.le_refl _, fun _ _ _ => rfl⟩ (fun k hk => .inl hk)
    simpa using hown
  | some ad =>
    refine wpList_append_own_at _ hgd s x t ho base e i z size bytes E.ht hi hz hsi hby hzs E.pos v n xs hs hown ad m c ys hx hl ?_ h1 h63 hbytes hbase ?_
    · intro j u hu
      have hj : j < ys.length := by
        rcases Nat.lt_or_ge j ys.length with h | h
        · exact h
        · rw [List.getElem?_eq_none h] at hu; cases hu
      have hm : 0 < m := by
        rcases Nat.eq_zero_or_pos m with h | h
        · subst h; simp at hl; subst hl; simp at hj
        · exact h
      obtain ⟨ad', e', _, hc⟩ := h5 hm
      cases e'
      exact hc j u hu
    · intro v' w' ho' hg' _ hk
      refine fin v' w' ho' hg' (fun k hk' => ?_)
      rcases hk with hk | hk
      · exact .inl (hk ▸ hk')
      · rw [hk] at hk'
        have := Option.some.inj hk'
        exact .inr (by omega)
end
theorem ucomes_le (u : List PT) : ucomes u ≤ u.length := by
  induction u with
  | nil => exact Nat.le_refl _
  | cons p u ih => rw [ucomes, List.length_cons]; split <;> omega
theorem own_addr {w : World} {base : Nat} {e : TypeId} {size : Nat} {v : Value} {n : Nat} {xs : List Value} (h : w.ownsRow base e size v n xs) : (v = .slice none 0 0 ∧ n = 0) ∨ ∃ g c, v = .slice (some ⟨g, 0, none⟩) n c := by
  rcases h with ⟨_, h | ⟨g, cap, cur, h, _⟩⟩
  · exact .inl h
  · exact .inr ⟨g, cap, h⟩
theorem take_at {z : U.Bs} {i : Nat} (h : i < z.length) : z.take (i + 1) = z.take i ++ [U.at_ z i] := by
  rw [List.take_succ_eq_append_getElem h]
  simp [U.at_, h]
theorem plg_take (x : Bool) (m : Nat) (S : SS) : plg (SS.take x m S) = plg S := by
  unfold plg
  rw [SS.take_P]; simp
theorem plg_cell (S : SS) (x : Cl) : plg (S.cell x) ≤ plg S + 1 := by
  unfold SS.cell
  split
  · unfold plg SS.P; simp; omega
  · rw [plg_take, plg_take]; omega
theorem plg_cells (l : List Cl) (S : SS) : plg (l.foldl SS.cell S) ≤ plg S + l.length := by
  induction l generalizing S with
  | nil => simp
  | cons x l ih =>
    rw [List.foldl_cons, List.length_cons]
    have := ih (S.cell x)
    have := plg_cell S x
    omega
theorem plg_gaps (n : Nat) (l : List Cl) : plg (gaps n l) ≤ l.length := by
  unfold gaps SS.full
  rw [plg_take]
  have := plg_cells l .zero
  simpa [plg, SS.P, SS.zero] using this
theorem e_le_plg (S : SS) : S.e.length ≤ plg S := by unfold plg SS.P; simp
theorem uwas_take (l : List PT) (k : Nat) : uwas (expand (l.take k)) ≤ uwas (expand l) := by
  conv => rhs; rw [← List.take_append_drop k l, expand_append, uwas_append]
  omega
end Go.Proofs.YthbhhnfhjppbdaaDoor
