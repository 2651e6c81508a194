/- Words for the laws over two operations. -/
import Derived.Test.YthbhhnfhjppbdaaDoorOpXT
namespace Go.Proofs.YthbhhnfhjppbdaaDoor
open Go.RowKit
set_option maxRecDepth 100000
attribute [local go_sem ↓] Go.wp_at_zero Go.wp_at_succ
set_option maxHeartbeats 2000000 in
theorem few_over {l : List PT} {v : Value} {n : Nat} {w : World} (hsl : Sl w 3 v n (opv l)) (hn : 100 < n) :
    Calls Tryd.prog 8 #[v] w fun e w' => e = .returned (.bool false) ∧ Below w.heap.size w w' := by
  have hle := hsl.le
  unfold maxLen at hle
  obtain ⟨A, c, rfl, -⟩ := hsl
  go_enter Tryd.func8, Tryd.ntmps8
  go_wp2_with fail
  go_ret
  exact ⟨rfl, Below.refl _ _⟩
end Go.Proofs.YthbhhnfhjppbdaaDoor
