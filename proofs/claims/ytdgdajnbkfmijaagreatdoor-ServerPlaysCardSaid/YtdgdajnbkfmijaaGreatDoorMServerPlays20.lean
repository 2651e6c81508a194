/- An argument that is a list of operations, opened; few, of any size. -/
import Derived.Test.YtdgdajnbkfmijaaGreatDoorMServerPlays11
import Derived.Test.YtdgdajnbkfmijaaGreatDoorMServerPlays3
namespace Go.Proofs.YtdgdajnbkfmijaaGreatDoor
open Go.ChangeShapes Go.WideShapes Go.ChangeAt Go.RowKit
set_option maxRecDepth 100000
theorem op_cellsOf : Tryz.prog.cellsOf 36 = 1 := by kernel_rfl
section
variable {H : Type} {enc : TypeId × Value → H} {w : World} {base : Nat}
theorem open_partsC {fuel : Nat} {cs : List Value} {x : DataW H × List MemPlace} (hf : DataW.trod enc Tryz.prog w base (fun _ => true) true fuel 36 cs = some x) :
    ∃ (v : Value) (n : Nat) (l : List PT), cs = [v] ∧ Sl w 3 v n (opv l) ∧ l.length = n ∧ (∀ p ∈ l, p.In) := by
  rcases Go.Deep.open_slice Tryz.underlying36 hf with ⟨rfl, hx⟩ | ⟨a, len, cap, m, n, D, Pl, rfl, _, hl, hm, hmm, hx, hi⟩
  · exact ⟨_, 0, [], rfl, Sl.nil w 3, rfl, fun p hp => by simp at hp⟩
  · simp only [if_true] at hmm
    subst hmm
    rw [pt_cellsOf] at hi
    have hpt : ∀ i, ∃ p : PT, i < len → (∀ j u, p.cells[j]? = some u → w.cell? (a.add (i * 3 + j)) = some u) ∧ D i = p.dat ∧ p.In := by
      intro i
      by_cases h : i < len
      · obtain ⟨cs', hc, ht⟩ := hi i (by omega)
        obtain ⟨p, rfl, hx, hin⟩ := open_part ht
        obtain ⟨_, _, hat⟩ := World.cells?_some hc
        refine ⟨p, fun _ => ⟨fun j u hu => ?_, hx, hin⟩⟩
        have hj : j < 3 := by
          rcases Nat.lt_or_ge j 3 with h | h
          · exact h
          · rw [List.getElem?_eq_none (by simpa using h)] at hu; cases hu
        rw [← add_of_add, hat j hj, hu]
      · exact ⟨⟨0, 0, []⟩, fun h' => absurd h' h⟩
    obtain ⟨f, hf'⟩ := Classical.axiomOfChoice hpt
    refine ⟨_, len, (List.range len).map f, rfl, ⟨some a, _, rfl, by rw [opv_length]; simp, hl, hm, (fun h => nomatch h), fun hn => ⟨a, rfl, ?_, ?_⟩⟩, by simp, ?_⟩
    · have h1 := (hf' 0 hn).1 0 _ rfl
      have := World.block_lt_of_cell? w _ h1
      rw [block_of_add] at this
      exact this
    · intro j u hu
      have hj : j < len * 3 := by
        rcases Nat.lt_or_ge j (len * 3) with h | h
        · exact h
        · rw [List.getElem?_eq_none (by rw [opv_length]; simpa using h)] at hu; cases hu
      have hk : j / 3 < ((List.range len).map f).length := by simp; omega
      obtain ⟨o0, o1, o2⟩ := opv_at hk
      have hg : ((List.range len).map f)[j / 3] = f (j / 3) := by simp
      rw [hg] at o0 o1 o2
      obtain ⟨hc, _, _⟩ := hf' (j / 3) (by omega)
      have hr : j % 3 = 0 ∨ j % 3 = 1 ∨ j % 3 = 2 := by omega
      rcases hr with hr | hr | hr
      · rw [show j = 3 * (j / 3) from by omega, o0] at hu
        have := hc 0 u (by simpa using hu)
        rwa [show j / 3 * 3 + 0 = j from by omega] at this
      · rw [show j = 3 * (j / 3) + 1 from by omega, o1] at hu
        have := hc 1 u (by simpa using hu)
        rwa [show j / 3 * 3 + 1 = j from by omega] at this
      · rw [show j = 3 * (j / 3) + 2 from by omega, o2] at hu
        have := hc 2 u (by simpa using hu)
        rwa [show j / 3 * 3 + 2 = j from by omega] at this
    · intro p hp
      obtain ⟨i, hi', rfl⟩ := List.mem_map.1 hp
      exact (hf' i (List.mem_range.1 hi')).2.2
/-- What a list of operations is, in memory. -/
def OpsL (w : World) (v : Value) (n : Nat) (L : List (Value × List PT)) : Prop :=
  Sl w 1 v n (L.map Prod.fst) ∧ L.length = n ∧ ∀ x ∈ L, Sl w 3 x.1 x.2.length (opv x.2) ∧ ∀ p ∈ x.2, p.In
theorem open_ops {r : Reach} {b0 : Nat} {v : Value} {d : DataW H} {ps : List MemPlace}
    (hval : Value.okWide Tryz.prog w r b0 263 v) (hd : DataW.Trod enc Tryz.prog w base (fun _ => true) true 263 v d ps) :
    ∃ (n : Nat) (L : List (Value × List PT)), OpsL w v n L := by
  obtain ⟨a0, len, cap, rfl⟩ := okWide_slice Tryz.underlying263 hval
  obtain ⟨fuel, hf⟩ := hd
  rcases Go.Deep.open_slice1 Tryz.underlying263 op_cellsOf hf with ⟨hcs, hx⟩ | ⟨a, len', cap', m, n, V, D, Pl, hcs, _, hl, hm, hmm, hx, hi⟩
  · simp [Value.cells] at hcs
    obtain ⟨rfl, rfl, rfl⟩ := hcs
    exact ⟨0, [], Sl.nil w 1, rfl, fun p hp => by simp at hp⟩
  · simp [Value.cells] at hcs
    obtain ⟨rfl, rfl, rfl⟩ := hcs
    simp only [if_true] at hmm
    subst hmm
    have hpt : ∀ i, ∃ l : List PT, i < len → w.cell? (a.add i) = some (V i) ∧ Sl w 3 (V i) l.length (opv l) ∧ ∀ p ∈ l, p.In := by
      intro i
      by_cases h : i < len
      · obtain ⟨hc, ht⟩ := hi i (by omega)
        obtain ⟨v', n', l, he, hs, hln, hin⟩ := open_partsC ht
        obtain rfl : V i = v' := by simpa using he
        exact ⟨l, fun _ => ⟨hc, by rw [hln]; exact hs, hin⟩⟩
      · exact ⟨[], fun h' => absurd h' h⟩
    obtain ⟨f, hf'⟩ := Classical.axiomOfChoice hpt
    refine ⟨len, (List.range len).map fun i => (V i, f i), ⟨some a, _, rfl, by simp, hl, hm, (fun h => nomatch h), fun hn => ⟨a, rfl, ?_, ?_⟩⟩, by simp, ?_⟩
    · have := World.block_lt_of_cell? w _ (hf' 0 hn).1
      rw [block_of_add] at this
      exact this
    · intro j u hu
      have hj : j < len := by
        rcases Nat.lt_or_ge j len with h | h
        · exact h
        · rw [List.getElem?_eq_none (by simpa using h)] at hu; cases hu
      have : u = V j := by simpa [hj] using hu.symm
      rw [this]
      exact (hf' j hj).1
    · intro x hx
      obtain ⟨i, hi', rfl⟩ := List.mem_map.1 hx
      exact (hf' i (List.mem_range.1 hi')).2
end
theorem few_big {v : Value} {l : List PT} {n : Nat} {w : World} (hsl : Sl w 3 v n (opv l)) (hn : 100 < n) : Calls Tryz.prog 10 #[v] w fun e w' => e = .returned (.bool false) ∧ w' = w := by
  obtain ⟨A, c, rfl, -⟩ := hsl
  have hi : (100 : Int) < (n : Int) := by omega
  go_enter Tryz.func10, Tryz.ntmps10
  go_wp2_with fail
  go_ret
  exact ⟨rfl, rfl⟩
end Go.Proofs.YtdgdajnbkfmijaaGreatDoor
