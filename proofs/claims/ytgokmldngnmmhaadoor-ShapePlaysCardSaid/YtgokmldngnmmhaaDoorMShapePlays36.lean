/- High, Many; how low a tree is. -/
import Derived.Test.YtgokmldngnmmhaaDoorMShapePlays31
import Derived.Test.YtgokmldngnmmhaaDoorMShapePlays25
import Derived.Laws.EntriesVeiled
namespace Go.Proofs.YtgokmldngnmmhaaDoor
open Go.RowKit
set_option maxRecDepth 100000
theorem rhigh_calls {p : Nat} {t : RT} {w : World} (h : AtR w p t) : Calls Tryd.prog 64 #[.pointer (some ⟨p, 0, none⟩)] w fun e w' => e = .returned (.int .i64 t.high) ∧ Below w.heap.size w w' := by
  have c0 := h.blk.cell 0
  have cl := h.blk.lt
  simp only [List.getElem?_toArray, List.getElem?_cons_zero, RT.ptr] at c0
  have HT := Hd.mk (high_q h.tree)
  clear h
  go_enter Tryd.func64, Tryd.ntmps64
  go_wp2_with (go_at_call 113; refine HT.out.mono ?_; rintro e w1 ⟨rfl, rfl⟩)
  go_ret
  exact ⟨rfl, Below.refl _ _⟩
/-- The closure that counts chunks. -/
def manyV (v : Nat) : Value := .func (.func 114) #[] #[.pointer (some ⟨v, 0, none⟩)]
set_option maxHeartbeats 2000000 in
theorem many1_calls {v : Nat} {t : RT} {w : World} (ht : AtT w t) (hv : Blk w v 192 #[manyV v]) (hn : t.nodes.length ≤ 1000000) :
    Calls Tryd.prog 114 #[t.ptr, .pointer (some ⟨v, 0, none⟩)] w fun e w' => e = .returned (.int .i64 t.nodes.length) ∧ ∃ m, w' = w.drewN m := by
  induction t generalizing w with
  | nil =>
    rw [RT.ptr_nil]
    clear ht hv hn
    go_enter Tryd.func114, Tryd.ntmps114
    go_wp2_with fail
    go_ret
    exact ⟨rfl, 0, rfl⟩
  | node g rs a c iha ihc =>
    rw [RT.nodes_node, List.length_append, List.length_cons] at hn
    obtain ⟨c0, -, -, -, -, -, -, -, -, c9, c10, -⟩ := nodeV_cell ht.1
    have cl := ht.1.lt
    have cf := ht.1.frozen
    have v0 := hv.cell 0
    have vl := hv.lt
    simp only [List.getElem?_toArray, List.getElem?_cons_zero, manyV] at v0
    simp only [RT.ptr] at c9 c10
    rw [RT.ptr_node]
    have HT := Hd.mk ht
    have HV := Hd.mk hv
    obtain ⟨na, hna⟩ : ∃ x, x = a.nodes.length := ⟨_, rfl⟩
    obtain ⟨nc, hnc⟩ : ∃ x, x = c.nodes.length := ⟨_, rfl⟩
    have HSUM : Hd (((RT.node g rs a c).nodes.length : Int) = 1 + (na : Int) + (nc : Int)) := ⟨by rw [RT.nodes_node, List.length_append, List.length_cons, hna, hnc]; omega⟩
    rw [← hna, ← hnc] at hn
    have IA := fun m => Hd.mk (iha (w := w.drewN m) (HT.out.2.1.drewN m) (HV.out.below (ex_drewN m (Below.refl _ _)) HV.out.lt) (by omega))
    have IC := fun m => Hd.mk (ihc (w := w.drewN m) (HT.out.2.2.drewN m) (HV.out.below (ex_drewN m (Below.refl _ _)) HV.out.lt) (by omega))
    simp only [← hna] at IA
    simp only [← hnc] at IC
    rw [HSUM.out]
    have hw1 : IntKind.i64.wrap (1 + (na : Int)) = 1 + (na : Int) := by rw [IntKind.wrap_i64] <;> omega
    have hw2 : IntKind.i64.wrap (1 + (na : Int) + (nc : Int)) = 1 + (na : Int) + (nc : Int) := by rw [IntKind.wrap_i64] <;> omega
    clear ht hv iha ihc hna hnc HSUM
    go_enter Tryd.func114, Tryd.ntmps114
    go_wp2_with fail
    go_quiet (first
      | (go_at_call_of 114 (Value.pointer a.pa); exact Calls.quiet_of (IA _).out)
      | (go_at_call_of 114 (Value.pointer c.pa); exact Calls.quiet_of (IC _).out))
    go_wp2_with fail
    go_ret
    exact ⟨rfl, _, rfl⟩
set_option maxHeartbeats 2000000 in
theorem many_calls {p : Nat} {t : RT} {w : World} (h : AtR w p t) (hn : t.nodes.length ≤ 1000000) :
    Calls Tryd.prog 65 #[.pointer (some ⟨p, 0, none⟩)] w fun e w' => e = .returned (.int .i64 t.nodes.length) ∧ Below w.heap.size w w' := by
  have hb : Below w.heap.size w (w.alloc (.cells #[manyV w.heap.size] 192)) := ex_alloc (Below.refl _ _) _
  have hv : Blk (w.alloc (.cells #[manyV w.heap.size] 192)) w.heap.size 192 #[manyV w.heap.size] := Blk.new w 192 #[manyV w.heap.size]
  have HB := Hd.mk hb
  have HV := Hd.mk hv
  have HR := Hd.mk h
  have HN := Hd.mk hn
  clear h hn hb hv
  go_enter Tryd.func65, Tryd.ntmps65
  go_wp2_with fail
  unfold manyV at HB HV
  generalize w.alloc (.cells #[Value.func (.func 114) #[] #[.pointer (some ⟨w.heap.size, 0, none⟩)]] 192) = wa at HB HV ⊢
  have HA := Hd.mk (HR.out.below HB.out)
  have c0 := HA.out.blk.cell 0
  have cl := HA.out.blk.lt
  have v0 := HV.out.cell 0
  have vl := HV.out.lt
  simp only [List.getElem?_toArray, List.getElem?_cons_zero, RT.ptr] at c0 v0
  go_quiet (first | (go_at_call 114; exact Calls.quiet_of (many1_calls (HA.out.tree.drewN _) (HV.out.below (ex_drewN _ (Below.refl _ _)) HV.out.lt) HN.out)))
  go_wp2_with fail
  go_ret
  exact ⟨rfl, ex_drewN _ HB.out⟩
theorem low_high (t : RT) : t.high ≤ t.nodes.length := by
  induction t with
  | nil => simp
  | node g rs l r ihl ihr => rw [RT.high_node, RT.nodes_node, List.length_append, List.length_cons]; omega
/-- A tree is low. -/
structure Low (n m : Nat) : Prop where
  z : m = 0 → n = 0
  one : m ≠ 0 → 1 ≤ n
  le : n ≤ m
  two : 2 ^ (n / 2) ≤ m + 1
theorem low_of {t : RT} (h : t.Bal) : Low t.high t.nodes.length := by
  refine ⟨fun e => ?_, fun e => ?_, low_high t, RT.bal_nodes h⟩
  · have := low_high t; omega
  · cases t with
    | nil => simp at e
    | node g rs l r => rw [RT.high_node]; omega
theorem low_end {n m j : Nat} (h : Low n m) (hj : (m + 1) / 2 ^ j = 0) : n ≤ 2 * j := by
  have h1 : m + 1 < 2 ^ j := (Nat.div_eq_zero_iff_lt (Nat.two_pow_pos j)).1 hj
  have h2 : 2 ^ (n / 2) < 2 ^ j := by have := h.two; omega
  have := (Nat.pow_lt_pow_iff_right (by omega : 1 < 2)).1 h2
  omega
theorem low_start (m : Nat) : (m + 1) / 2 ^ (m + 1) = 0 := Nat.div_eq_of_lt Nat.lt_two_pow_self
set_option maxHeartbeats 2000000 in
theorem low_calls {n m : Nat} (h : Low n m) (hm : m ≤ 1000000) (w : World) : Calls Tryd.prog 63 #[.int .i64 n, .int .i64 m] w fun e w' => e = .returned (.bool true) ∧ w' = w := by
  have HL := Hd.mk h
  have hnm : n ≤ 1000000 := by have := h.le; omega
  clear h
  go_enter Tryd.func63, Tryd.ntmps63
  go_wp2_with fail
  go_loopg [5, 6] (m + 1) (fun gk bv kv wr => ∃ j k : Nat, bv = .int .i64 (j : Int) ∧ kv = .int .i64 (k : Int) ∧ k = (m + 1) / 2 ^ j ∧ k + j ≤ m + 1 ∧ gk + j = m + 1 ∧ wr = w)
  case atStart => exact ⟨0, m + 1, rfl, by simp, by simp, by omega, by omega, rfl⟩
  case round =>
    obtain ⟨j, k, rfl, rfl, hk, hkj, hj, rfl⟩ := hrel
    by_cases h7 : 0 < k
    · have h8 : (0 : Int) < (k : Int) := by omega
      have HK := Hd.mk hk
      have HJ := Hd.mk hj
      have hk2 : Hd (k / 2 = (m + 1) / 2 ^ (j + 1)) := ⟨by rw [hk, Nat.div_div_eq_div_mul, Nat.pow_succ]⟩
      have hk3 : k / 2 + (j + 1) ≤ m + 1 := by omega
      have hdv : wrap64 ((k : Int) / 2) = (k : Int) / 2 := by unfold wrap64; omega
      have HK3 := Hd.mk hk3
      have hj0 : j < m + 1 := by omega
      clear hk hj hk3 hkj
      go_wp2_with fail
      go_roundg (m + 1 - (j + 1))
      case rel => exact ⟨j + 1, k / 2, by simp, by rw [hdv]; simp, hk2.out, HK3.out, by omega, rfl⟩
      case measure => have := HJ.out; omega
    · obtain rfl : k = 0 := by omega
      have hend := low_end HL.out hk.symm
      have hj1 : j ≤ m + 1 := by omega
      clear hk hj h7 hkj
      by_cases h0 : m = 0
      · subst h0
        obtain rfl := HL.out.z rfl
        go_wp2_with fail
        go_ret
        exact ⟨rfl, rfl⟩
      · have a1 : ¬ ((m : Int) = 0) := by omega
        have a2 := HL.out.one h0
        have a3 := HL.out.le
        have b1 : decide ((1 : Int) ≤ (n : Int)) = true := decide_eq_true (by omega)
        have b2 : (n : Int) ≤ 2 * (j : Int) := by omega
        have b3 : (n : Int) ≤ (m : Int) := by omega
        have b4 : (1 : Int) ≤ (n : Int) := by omega
        go_wp2_with fail
        go_ret
        exact ⟨rfl, rfl⟩
end Go.Proofs.YtgokmldngnmmhaaDoor
