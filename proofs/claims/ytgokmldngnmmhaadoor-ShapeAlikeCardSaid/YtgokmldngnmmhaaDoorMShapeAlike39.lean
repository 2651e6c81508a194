/- Lines of a text in its bytes. Plain. -/
import Derived.Test.YtgokmldngnmmhaaDoorMShapeAlike15
import Derived.Test.YtgokmldngnmmhaaDoorMShapeAlike17
import Derived.Test.YtgokmldngnmmhaaDoorMShapeAlike18
import Derived.Lib.Bytealg
namespace Go.Proofs.YtgokmldngnmmhaaDoor
open Go.RowKit
theorem idx_hit {l t : List UInt8} {c : UInt8} (h : l.count c = 0) : Lib.indexByte (l ++ c :: t) c = l.length := by
  induction l with
  | nil => simp [Lib.indexByte]
  | cons x l ih =>
    rw [List.count_cons] at h
    have hx : (x == c) = false := by
      cases e : (x == c)
      · rfl
      · rw [e] at h; simp at h
    have h2 : l.count c = 0 := by omega
    have := ih h2
    rw [List.cons_append, Lib.indexByte, hx, this]
    have hn : ((l.length : Int) == -1) = false := by rw [beq_eq_false_iff_ne]; omega
    rw [hn]
    simp
theorem idx_none {l : List UInt8} {c : UInt8} (h : l.count c = 0) : Lib.indexByte l c = -1 := by
  induction l with
  | nil => rfl
  | cons x l ih =>
    rw [List.count_cons] at h
    have hx : (x == c) = false := by
      cases e : (x == c)
      · rfl
      · rw [e] at h; simp at h
    have := ih (by omega)
    rw [Lib.indexByte, hx, this]
    rfl
theorem count_encs {rs : List Int} (h : U.AllR rs) : ((U.encs rs).count 10 : Int) = (cnt rs).l := by rw [cnt_full h]
theorem encs_nl (a b : List Int) : U.encs (a ++ 10 :: b) = U.encs a ++ 10 :: U.encs b := by
  rw [U.encs_append, U.encs_cons]; rfl
theorem split_nl {q : List Int} (h : 0 < (cnt q).l) : ∃ a b, q = a ++ 10 :: b ∧ (cnt a).l = 0 := by
  induction q with
  | nil => rw [cnt_nil] at h; exact absurd h (by decide)
  | cons r q ih =>
    by_cases hr : r = 10
    · subst hr; exact ⟨[], q, rfl, rfl⟩
    · have e : (r :: q) = [r] ++ q := rfl
      rw [e, cnt_app_l, cnt_one_l, if_neg hr] at h
      obtain ⟨a, b, rfl, ha⟩ := ih (by omega)
      refine ⟨r :: a, b, rfl, ?_⟩
      rw [show (r :: a) = [r] ++ a from rfl, cnt_app_l, cnt_one_l, if_neg hr, ha]; rfl
theorem all_of_app {a b : List Int} (h : U.AllR (a ++ b)) : U.AllR a ∧ U.AllR b := ⟨fun r hr => h r (List.mem_append_left _ hr), fun r hr => h r (List.mem_append_right _ hr)⟩
theorem idx_encs {a b : List Int} (h : U.AllR (a ++ 10 :: b)) (h0 : (cnt a).l = 0) : Lib.indexByte (U.encs (a ++ 10 :: b)) 10 = bl a := by
  rw [encs_nl]
  refine idx_hit ?_
  have := count_encs (all_of_app h).1
  omega
/-- One line further: from a line's beginning to the next one's. -/
theorem line_step {p q : List Int} (h : U.AllR (p ++ q)) (hq : 0 < (cnt q).l) : ∃ a b, q = a ++ 10 :: b ∧ (cnt (p ++ a ++ [10])).l = (cnt p).l + 1 ∧ Lib.indexByte (U.encs q) 10 = bl a ∧ bl (p ++ a ++ [10]) = bl p + bl a + 1 ∧ p ++ q = (p ++ a ++ [10]) ++ b := by
  obtain ⟨a, b, rfl, h0⟩ := split_nl hq
  refine ⟨a, b, rfl, ?_, idx_encs (all_of_app h).2 h0, ?_, by simp⟩
  · rw [cnt_app_l, cnt_app_l, cnt_one_l, if_pos rfl, h0]; omega
  · rw [bl_append, bl_append]; rfl
end Go.Proofs.YtgokmldngnmmhaaDoor
