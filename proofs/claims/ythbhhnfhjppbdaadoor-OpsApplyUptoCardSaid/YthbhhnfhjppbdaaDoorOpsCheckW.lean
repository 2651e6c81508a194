/- The walk of the law OpsCheck. -/
import Derived.Test.YthbhhnfhjppbdaaDoorRefG
import Derived.Test.YthbhhnfhjppbdaaDoorPartD
import Derived.Test.YthbhhnfhjppbdaaDoorPartF
import Derived.Test.YthbhhnfhjppbdaaDoorPartS
namespace Go.Proofs.YthbhhnfhjppbdaaDoor
open Go.RowKit
set_option maxRecDepth 100000
attribute [local go_sem ↓] Go.wp_at_zero Go.wp_at_succ
theorem chk_good {l : List PT} {m : Int} (h : chk l m = 0) : ∀ p ∈ l, p.Good := by
  unfold chk at h
  split at h
  · rename_i h1
    clear h
    induction l with
    | nil => intro p hp; simp at hp
    | cons p l ih =>
      unfold e1 at h1
      split at h1
      · exact absurd h1 (by decide)
      · rename_i ha
        split at h1
        · exact absurd h1 (by decide)
        · rename_i hf
          intro q hq
          rcases List.mem_cons.1 hq with rfl | hq
          · exact ⟨Classical.not_not.1 ha, Classical.not_not.1 hf⟩
          · exact ih h1 q hq
  · rename_i h1; exact absurd h h1
theorem few_bd {l : List PT} (hf : Few l) (ha : ∀ p ∈ l, p.arg) : was l ≤ 10000 * l.length ∧ plen l ≤ 300 * l.length ∧ 0 ≤ was l := by
  refine ⟨?_, ?_, was_nn ha⟩
  · induction l with
    | nil => simp [was]
    | cons p l ih =>
      have h1 := ih (fun q hq => hf q (by simp [hq])) (fun q hq => ha q (by simp [hq]))
      obtain ⟨_, h2, h3⟩ := hf p (by simp)
      rw [was, List.length_cons]
      omega
  · induction l with
    | nil => simp [plen]
    | cons p l ih =>
      have h1 := ih (fun q hq => hf q (by simp [hq])) (fun q hq => ha q (by simp [hq]))
      obtain ⟨h2, _⟩ := hf p (by simp)
      rw [plen, List.length_cons]
      omega
theorem plg_spread (l : List PT) : plg (spread l) = plen l := by
  suffices hs : ∀ S : SS, plg (l.foldl SS.step S) = plg S + plen l by
    have := hs .zero
    simpa [spread, plg, SS.P, SS.zero] using this
  have ht : ∀ (x : Bool) (m : Nat) (S : SS), plg (SS.take x m S) = plg S := by
    intro x m S
    unfold plg
    rw [SS.take_P]; simp
  induction l with
  | nil => intro S; simp [plen]
  | cons p l ih =>
    intro S
    rw [List.foldl_cons, ih, plen]
    unfold SS.step
    rw [ht, ht]
    unfold plg SS.P
    simp; omega
theorem beq_self (a : Int) : (a == a) = true := by simp
end Go.Proofs.YthbhhnfhjppbdaaDoor
