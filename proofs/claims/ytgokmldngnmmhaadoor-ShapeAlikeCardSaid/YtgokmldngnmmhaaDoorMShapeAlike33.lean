/- append(own, src...) at a step of a region that draws; a part of a slice of single cells. -/
import Derived.Test.YtgokmldngnmmhaaDoorMShapeAlike3
import Derived.Test.YtgokmldngnmmhaaDoorMShapeAlike16
import Derived.Deep.AppendLies
import Derived.Deep.RegionLaw
import Derived.Laws.AppendOwnNone
import Derived.Maps.AppendAt
namespace Go.Proofs.YtgokmldngnmmhaaDoor
open Go.RowKit
section
variable {P : Program} {ops : Array Oper} {Q : Exit → Act → World → Prop} {K : Act → World → Prop} {F : Prop} {a : Act} {W : World} {o : Oper} {s x : Operand} {t e : TypeId} {size bytes base n m : Nat} {v : Value} {xs : List Value}
theorem run_app (E : El P t e size bytes) (ty : TypeId) (ys : List Value) (u : Value) (hown : W.ownsRow base e size v n xs) (hsl : Sl W size u m ys)
    (h1 : ∀ u ∈ ys, u.oneCell' = true) (h63 : n + m ≤ maxLen) (hbytes : (n + m) * bytes ≤ 140737488355328) (hbase : base ≤ W.heap.size) :
    ∃ v' w', (Builtin.append_ #[t, t] ty #[v, u]).run P W = .ok v' w' ∧ w'.ownsRow base e size v' (n + m) (xs ++ ys) ∧ Below base W w' ∧ W.grownBy w' v.ownBlock ∧ (∀ k, v'.ownBlock = some k → v.ownBlock = some k ∨ W.heap.size ≤ k) := by
  obtain ⟨i, z, hi, hz, hsi, hby, hzs⟩ := E.hi
  have hlt := hown.lt
  have bel : ∀ w', W.grownBy w' v.ownBlock → Below base W w' := fun w' hg' =>
    ⟨hg'.os, hg'.tape, hg'.output, hg'.size, fun k hk => hg'.block k (by omega) (fun e => by have := hlt k e.symm; omega)⟩
  obtain ⟨A, c, rfl, hl, _, _, h4, h5⟩ := hsl
  cases A with
  | none =>
    have hm : m = 0 := by
      rcases Nat.eq_zero_or_pos m with h | h
      · exact h
      · obtain ⟨ad, hh, _⟩ := h5 h
        cases hh
    subst hm
    obtain rfl := h4 rfl
    have hy : ys = [] := List.eq_nil_of_length_eq_zero (by simpa using hl)
    subst hy
    have hg : W.grownBy W v.ownBlock := ⟨rfl, rfl, rfl, Nat.le_refl _, fun _ _ _ => rfl⟩
    exact ⟨v, W, run_append_owned_none (P := P) (w := W) base t ty e i size E.ht hi v n xs hown, by simpa using hown, bel _ hg, hg, fun k hk => .inl hk⟩
  | some ad =>
    have hc : ∀ j u, ys[j]? = some u → W.cell? (ad.add j) = some u := by
      intro j u hu
      have hj : j < ys.length := by
        rcases Nat.lt_or_ge j ys.length with h | h
        · exact h
        · rw [List.getElem?_eq_none h] at hu; cases hu
      have hm : 0 < m := by
        rcases Nat.eq_zero_or_pos m with h | h
        · subst h; simp at hl; subst hl; simp at hj
        · exact h
      obtain ⟨ad', e', _, hc⟩ := h5 hm
      cases e'
      exact hc j u hu
    obtain ⟨v', w', hrun, h2, h3, _, hk⟩ := run_append_own_at (P := P) W base t ty e i z size bytes E.ht hi hz hsi hby hzs E.pos v n xs hown ad m c ys hl hc h1 h63 hbytes hbase
    refine ⟨v', w', hrun, h2, bel _ h3, h3, fun k hk' => ?_⟩
    rcases hk with hk | hk
    · exact .inl (hk ▸ hk')
    · rw [hk] at hk'
      have := Option.some.inj hk'
      exact .inr (by omega)
theorem step_sl (E : El P t e size bytes) (ys : List Value) (u : Value) (hown : W.ownsRow base e size v n xs) (hsl : Sl W size u m ys) (hgd : o.guard = none)
    (ho : o.op = .call { callee := .builtin .append, args := #[s, x], argTypes := #[t, t] }) (hs : a.eval s = v) (hx : a.eval x = u)
    (h1 : ∀ u ∈ ys, u.oneCell' = true) (h63 : n + m ≤ maxLen) (hbytes : (n + m) * bytes ≤ 140737488355328) (hbase : base ≤ W.heap.size)
    (h : ∀ v' w', w'.ownsRow base e size v' (n + m) (xs ++ ys) → Below base W w' → W.grownBy w' v.ownBlock → (∀ k, v'.ownBlock = some k → v.ownBlock = some k ∨ W.heap.size ≤ k) → K (a.put o.dst v') w') :
    if Region.wanted o (yielded ops a.tmps) = true then Oper.wp P o a W K Q else F := by
  have hw : Region.wanted o (yielded ops a.tmps) = true := by simp [Region.wanted, hgd]
  rw [if_pos hw]
  obtain ⟨v', w', hrun, h2, h3, h4, h5⟩ := run_app E o.type ys u hown hsl h1 h63 hbytes hbase
  unfold Oper.wp
  simp [execOp, ho, resolve, invoke, builtin, hs, hx, hrun, Result.andThen]
  exact h v' w' h2 h3 h4 h5
/-- Nothing is appended: nothing turns. -/
theorem run_app0 (E : El P t e size bytes) (ty : TypeId) (hown : W.ownsRow base e size v n xs) (A : Option Addr) (c : Nat) :
    (Builtin.append_ #[t, t] ty #[v, .slice A 0 c]).run P W = .ok v W := by
  obtain ⟨i, z, hi, hz, hsi, hby, hzs⟩ := E.hi
  have ht := E.ht
  rcases hown.2 with ⟨rfl, rfl⟩ | ⟨g, cap, cur, rfl, _, _, hnc, _⟩
  · cases A <;> simp [Builtin.append_, run_underlying ht, sizeOf, typeInfo, hi, Builtin.lenOf, Builtin.firstCells, loadCells, loadCellsFrom, Result.andThen]
  · cases A <;> simp [Builtin.append_, run_underlying ht, sizeOf, typeInfo, hi, Builtin.lenOf, Builtin.firstCells, loadCells, loadCellsFrom, Result.andThen, hnc, storeCells]
theorem step_sl0 (E : El P t e size bytes) (hown : W.ownsRow base e size v n xs) {A : Option Addr} {c : Nat} (hgd : o.guard = none)
    (ho : o.op = .call { callee := .builtin .append, args := #[s, x], argTypes := #[t, t] }) (hs : a.eval s = v) (hx : a.eval x = .slice A 0 c)
    (h : K (a.put o.dst v) W) :
    if Region.wanted o (yielded ops a.tmps) = true then Oper.wp P o a W K Q else F := by
  have hw : Region.wanted o (yielded ops a.tmps) = true := by simp [Region.wanted, hgd]
  rw [if_pos hw]
  have hrun := run_app0 E o.type hown A c
  unfold Oper.wp
  simp [execOp, ho, resolve, invoke, builtin, hs, hx, hrun, Result.andThen]
  exact h
end
/-- A part of a slice of single cells. -/
theorem Sl.part1 {w : World} {xs : List Value} {b o n c i m : Nat} (h : Sl w 1 (.slice (some ⟨b, o, none⟩) n c) n xs) (him : i + m ≤ n) : Sl w 1 (.slice (some ⟨b, o + i, none⟩) m (c - i)) m ((xs.drop i).take m) := by
  obtain ⟨A, c', hv, h2, h3, h4, h4', h5⟩ := h
  cases hv
  have hlm : ((xs.drop i).take m).length = m * 1 := by rw [List.length_take, List.length_drop]; omega
  refine ⟨_, _, rfl, hlm, by omega, by omega, (fun h => nomatch h), fun hm => ?_⟩
  obtain ⟨ad, had, hb, hc⟩ := h5 (by omega)
  cases had
  refine ⟨_, rfl, hb, fun j u hu => ?_⟩
  have hj : j < m := by
    rcases Nat.lt_or_ge j m with h | h
    · exact h
    · rw [List.getElem?_eq_none (by omega)] at hu; cases hu
  have := hc (i + j) u (by rw [List.getElem?_take_of_lt hj, List.getElem?_drop] at hu; exact hu)
  have am : ∀ k, (⟨b, o, none⟩ : Addr).add k = ⟨b, o + k, none⟩ := fun k => by cases k <;> rfl
  have am2 : ∀ k, (⟨b, o + i, none⟩ : Addr).add k = ⟨b, o + i + k, none⟩ := fun k => by cases k <;> rfl
  rw [am] at this
  rw [am2, Nat.add_assoc]
  exact this
theorem Sl.addr1 {w : World} {A : Option Addr} {n c : Nat} {xs : List Value} (h : Sl w 1 (.slice A n c) n xs) (hn : 0 < n) : ∃ b o, A = some ⟨b, o, none⟩ := by
  obtain ⟨A', c', hv, h2, h3, h4, h4', h5⟩ := h
  cases hv
  obtain ⟨ad, rfl, hb, hc⟩ := h5 hn
  obtain ⟨b, o, p⟩ := ad
  have hl : 0 < xs.length := by omega
  have hz := hc 0 (xs[0]'hl) (List.getElem?_eq_getElem hl)
  have : (⟨b, o, p⟩ : Addr).add 0 = ⟨b, o, p⟩ := by unfold Addr.add; rfl
  rw [this] at hz
  cases p with
  | none => exact ⟨b, o, rfl⟩
  | some x => unfold World.cell? at hz; split at hz <;> simp at hz
theorem Sl.none1 {w : World} {A : Option Addr} {c : Nat} (hc : c ≤ maxLen) (hA : A = none → c = 0) : Sl w 1 (.slice A 0 c) 0 [] :=
  ⟨A, c, rfl, rfl, Nat.zero_le _, hc, hA, fun h => absurd h (by omega)⟩
end Go.Proofs.YtgokmldngnmmhaaDoor
