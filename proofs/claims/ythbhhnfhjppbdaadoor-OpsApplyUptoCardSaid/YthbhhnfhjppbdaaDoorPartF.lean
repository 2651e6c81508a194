/- fine. -/
import Derived.Test.YthbhhnfhjppbdaaDoorPartC
namespace Go.Proofs.YthbhhnfhjppbdaaDoor
open Go.RowKit
set_option maxRecDepth 100000
attribute [local go_sem ↓] Go.wp_at_zero Go.wp_at_succ
theorem wrap_in (a : Int) : -9223372036854775808 ≤ wrap64 a ∧ wrap64 a ≤ 9223372036854775807 := by unfold wrap64; omega
def Fine (l : List PT) : Prop := Few l ∧ chk l (wrap64 (was l)) = 0
end Go.Proofs.YthbhhnfhjppbdaaDoor
