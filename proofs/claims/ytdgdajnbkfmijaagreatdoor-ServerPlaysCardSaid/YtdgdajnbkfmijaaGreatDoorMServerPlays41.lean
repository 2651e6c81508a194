/- Entries in memory; slices.Clone of an operation and of entries. -/
import Derived.Test.YtdgdajnbkfmijaaGreatDoorMServerPlays40
import Derived.Test.YtdgdajnbkfmijaaGreatDoorMServerPlays24
import Derived.Test.YtdgdajnbkfmijaaGreatDoorMServerPlays1
import Derived.Test.YtdgdajnbkfmijaaGreatDoorMServerPlays36
import Derived.Lib.SliceRun
namespace Go.Proofs.YtdgdajnbkfmijaaGreatDoor
open Go.RowKit
set_option maxRecDepth 100000
def ecv (x : EN × Value) : List Value := [.int .i64 x.1.who, .int .i64 x.1.id, x.2]
def ens (L : List (EN × Value)) : List Value := L.flatMap ecv
theorem ens_nil : ens [] = [] := rfl
theorem ens_append (a b : List (EN × Value)) : ens (a ++ b) = ens a ++ ens b := by unfold ens; rw [List.flatMap_append]
theorem ens_one (x : EN × Value) : ens [x] = ecv x := by simp [ens]
theorem ens_length (L : List (EN × Value)) : (ens L).length = L.length * 3 := by
  induction L with
  | nil => rfl
  | cons x L ih =>
    have e : ens (x :: L) = ecv x ++ ens L := by simp [ens]
    rw [e, List.length_append, ih]
    simp [ecv]
    omega
theorem ens_at {L : List (EN × Value)} {k : Nat} (hk : k < L.length) : (ens L)[k * 3]? = some (.int .i64 L[k].1.who) ∧ (ens L)[k * 3 + 1]? = some (.int .i64 L[k].1.id) ∧ (ens L)[k * 3 + 2]? = some L[k].2 := by
  induction L generalizing k with
  | nil => simp at hk
  | cons x L ih =>
    have e : ens (x :: L) = ecv x ++ ens L := by simp [ens]
    rw [e]
    cases k with
    | zero => simp [ecv]
    | succ k =>
      obtain ⟨h1, h2, h3⟩ := ih (k := k) (by simpa using hk)
      have hl : (ecv x).length = 3 := rfl
      simp only [List.getElem_cons_succ]
      refine ⟨?_, ?_, ?_⟩
      · rw [List.getElem?_append_right (by omega), hl, ← h1]; congr 1; omega
      · rw [List.getElem?_append_right (by omega), hl, ← h2]; congr 1; omega
      · rw [List.getElem?_append_right (by omega), hl, ← h3]; congr 1; omega
theorem ens_drop (L : List (EN × Value)) (k : Nat) : ens (L.drop k) = (ens L).drop (k * 3) := by
  induction L generalizing k with
  | nil => simp [ens]
  | cons x L ih =>
    cases k with
    | zero => simp
    | succ k =>
      have e : ens (x :: L) = Value.int .i64 x.1.who :: Value.int .i64 x.1.id :: x.2 :: ens L := by simp [ens, ecv]
      rw [List.drop_succ_cons, ih, e, show (k + 1) * 3 = k * 3 + 1 + 1 + 1 from by omega]
      simp only [List.drop_succ_cons]
/-- An operation that lies outside of what may turn. -/
def OpO (F : Nat → Prop) (w : World) (v : Value) (l : List PT) : Prop := Sl w 3 v l.length (opv l) ∧ ∀ ad n c, v = .slice (some ad) n c → 0 < n → ¬ F ad.block
def EnO (F : Nat → Prop) (w : World) (L : List (EN × Value)) : Prop := ∀ x ∈ L, OpO F w x.2 x.1.op
section
variable {F F' : Nat → Prop} {w w' : World} {v : Value} {l : List PT}
/-- What may turn then: what might ahead, and what is new. -/
def Grow (F F' : Nat → Prop) (n : Nat) : Prop := ∀ k, F' k → F k ∨ n ≤ k
theorem Grow.refl (F : Nat → Prop) (n : Nat) : Grow F F n := fun _ h => .inl h
theorem Grow.trans {F F' F'' : Nat → Prop} {n m : Nat} (h : Grow F F' n) (k : Grow F' F'' m) (hm : n ≤ m) : Grow F F'' n := fun i hi => (k i hi).elim (h i) (fun e => .inr (Nat.le_trans hm e))
theorem Grow.mono {F F' : Nat → Prop} {n m : Nat} (h : Grow F F' m) (hm : n ≤ m) : Grow F F' n := fun i hi => (h i hi).imp_right (Nat.le_trans hm)
theorem OpO.sl (h : OpO F w v l) : Sl w 3 v l.length (opv l) := h.1
theorem OpO.only (h : OpO F w v l) (ho : Only F w w') (hF : Grow F F' w.heap.size) : OpO F' w' v l := by
  refine ⟨h.1.only ho (fun A c e hn => h.2 A _ c e hn), fun ad n c e hn hF' => ?_⟩
  rcases hF _ hF' with h1 | h1
  · exact h.2 ad n c e hn h1
  · obtain ⟨A, c', e', -, -, -, -, h5⟩ := h.1
    rw [e'] at e
    cases e
    obtain ⟨ad', e2, hb, -⟩ := h5 hn
    cases e2
    omega
theorem OpO.below (h : OpO F w v l) (hb : Below w.heap.size w w') (hF : Grow F F' w.heap.size) : OpO F' w' v l := h.only (Only.of_below hb) hF
theorem OpO.sub (h : OpO F w v l) (hF : ∀ k, F' k → F k) : OpO F' w v l := ⟨h.1, fun ad n c e hn hk => h.2 ad n c e hn (hF _ hk)⟩
theorem OpO.frs {B : Nat} (h : Sl w 3 v l.length (opv l)) (hf : Frs B v) (hF : ∀ k, F k → k < B) : OpO F w v l := ⟨h, fun ad n c e _ hk => by have := hf ad n c e; have := hF _ hk; omega⟩
theorem OpO.nil (F : Nat → Prop) (w : World) : OpO F w (.slice none 0 0) [] := ⟨Sl.nil w 3, fun ad n c e => by cases e⟩
theorem EnO.only {L : List (EN × Value)} (h : EnO F w L) (ho : Only F w w') (hF : Grow F F' w.heap.size) : EnO F' w' L := fun x hx => (h x hx).only ho hF
/-- An operation is three cells a part: of one cell each. -/
theorem opv_one' (l : List PT) : ∀ u ∈ opv l, u.oneCell' = true := by
  intro u hu
  unfold opv at hu
  obtain ⟨p, -, hp⟩ := List.mem_flatMap.1 hu
  simp only [PT.cells, List.mem_cons, List.not_mem_nil, or_false] at hp
  rcases hp with rfl | rfl | rfl <;> rfl
end
/-- A row of nothing that is new. -/
theorem own_none {w : World} {t : TypeId} {size : Nat} : (w.alloc (.cells #[] t)).ownsRow w.heap.size t size (.slice (some ⟨w.heap.size, 0, none⟩) 0 0) 0 [] :=
  ⟨by simp, .inr ⟨w.heap.size, 0, #[], rfl, Nat.le_refl _, heap_alloc_new w _, Nat.le_refl _, by unfold maxLen; omega, by simp, by simp⟩⟩
/-- 's == nil'. -/
theorem eq_op_nil (w : World) (A : Option Addr) (n c : Nat) : (binOp .eql 36 (.slice A n c) (.slice none 0 0)).run Tryz.prog w = .ok (.bool A.isNone) w := Lib.run_eql_slice_nil w _ _ A n c 0 0 Tryz.underlying36
theorem clone_calls {l : List PT} {v : Value} {n : Nat} {w : World} (hsl : Sl w 3 v n (opv l)) (hn : n ≤ 1000000) :
    Calls Tryz.prog 57 #[v] w fun e w' => (∃ v', e = .returned v' ∧ Sl w' 3 v' n (opv l) ∧ Frs w.heap.size v') ∧ Below w.heap.size w w' := by
  have HSL := Hd.mk hsl
  obtain ⟨A, c, rfl, -, -, -, hA, h5⟩ := hsl
  cases A with
  | none =>
    obtain rfl := hA rfl
    obtain rfl : n = 0 := by
      rcases Nat.eq_zero_or_pos n with h | h
      · exact h
      · obtain ⟨ad, e, -⟩ := h5 h; cases e
    clear hA h5
    have heq := eq_op_nil
    go_enter Tryz.func57, Tryz.ntmps57
    go_wp2_with fail
    go_ret
    exact ⟨⟨_, rfl, HSL.out, Frs.nil _⟩, Below.refl _ _⟩
  | some ad =>
    clear hA h5
    have heq := eq_op_nil
    go_enter Tryz.func57, Tryz.ntmps57
    go_wp2_with (at_builtin; refine append_sl' el_part (opv l) (.slice (some ad) n c) own_none (HSL.out.below (ex_alloc (Below.refl _ _) _)) rfl rfl rfl rfl (opv_one' l) (by unfold maxLen; omega) (by omega) (by simp) ?_; intro v9 w9 hown9 hbel9 hgr9 hnew9; rw [Nat.zero_add, List.nil_append] at hown9; have HO9 := Hd.mk hown9; obtain ⟨A9, k9, rfl⟩ := own_form hown9; have HB9 := Hd.mk hbel9; clear hown9 hbel9 hgr9 hnew9)
    go_ret
    exact ⟨⟨_, rfl, Sl.of_own HO9.out, Frs.of_own HO9.out⟩, (ex_alloc (Below.refl _ _) _).trans HB9.out⟩
theorem el_entry : El Tryz.prog 54 120 3 40 := El.mk' Tryz.underlying54 (by kernel_rfl) (by decide)
theorem ens_one' {w : World} {F : Nat → Prop} {L : List (EN × Value)} (h : EnO F w L) : ∀ u ∈ ens L, u.oneCell' = true := by
  intro u hu
  unfold ens at hu
  obtain ⟨x, hx, hp⟩ := List.mem_flatMap.1 hu
  obtain ⟨A, c, e, -⟩ := (h x hx).1
  simp only [ecv, List.mem_cons, List.not_mem_nil, or_false] at hp
  rcases hp with rfl | rfl | rfl
  · rfl
  · rfl
  · rw [e]; rfl
end Go.Proofs.YtdgdajnbkfmijaaGreatDoor
