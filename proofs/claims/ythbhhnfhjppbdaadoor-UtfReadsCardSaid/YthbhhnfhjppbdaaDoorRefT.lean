/- Walks of the reference's Text and FromHalves. -/
import Derived.Test.YthbhhnfhjppbdaaDoorRefU
import Derived.Test.YthbhhnfhjppbdaaDoorErr
namespace Go.Proofs.YthbhhnfhjppbdaaDoor
open Go.RowKit
set_option maxRecDepth 100000
def fltV (e p : Int) : Value := .agg #[.int .i64 e, .int .i64 p]
def RTextPost (pre rest : List Int) (w : World) (e : Ending) (w' : World) : Prop :=
  Below w.heap.size w w' ∧ (rest = [] → e = .returned (.tuple #[.string ⟨(U.encs pre).toArray⟩, .agg #[.int .i64 0, .int .i64 (-1)]])) ∧
    (rest ≠ [] → e = .returned (.tuple #[.string ⟨#[]⟩, .agg #[.int .i64 3, .int .i64 pre.length]]))
section
attribute [local go_sem] str_append
end
def RFromPost (pre rest : List Int) (w : World) (e : Ending) (w' : World) : Prop :=
  Below w.heap.size w w' ∧ (rest = [] → e = .returned (.tuple #[.string ⟨(U.encs pre).toArray⟩, .agg #[.int .i64 0, .int .i64 (-1)]])) ∧
    (rest ≠ [] → e = .returned (.tuple #[.string ⟨#[]⟩, .agg #[.int .i64 3, .int .i64 (U.hoff pre pre.length)]]))
theorem le_hoff {rs : List Int} {k : Nat} (hk : k ≤ rs.length) : k ≤ U.hoff rs k := by
  induction k with
  | zero => omega
  | succ k ih =>
    rw [U.hoff_succ hk]
    have := U.hwid_pos rs[k]
    have := ih (by omega)
    omega
end Go.Proofs.YthbhhnfhjppbdaaDoor
