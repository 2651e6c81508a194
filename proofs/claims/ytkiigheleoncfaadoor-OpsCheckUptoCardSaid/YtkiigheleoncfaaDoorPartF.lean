/- fine. -/
import Derived.Test.YtkiigheleoncfaaDoorPartC
namespace Go.Proofs.YtkiigheleoncfaaDoor
open Go.RowKit
set_option maxRecDepth 100000
attribute [local go_sem ↓] Go.wp_at_zero Go.wp_at_succ
theorem wrap_in (a : Int) : -9223372036854775808 ≤ wrap64 a ∧ wrap64 a ≤ 9223372036854775807 := by unfold wrap64; omega
def Fine (l : List PT) : Prop := Few l ∧ chk l (wrap64 (was l)) = 0
set_option maxHeartbeats 2000000 in
theorem fine_calls {l : List PT} {v : Value} {n : Nat} {w : World} (hsl : Sl w 3 v n (opv l)) (hn : n ≤ 100) (hp : ∀ p ∈ l, p.put.length ≤ 35184372087808) :
    Calls Tryd.prog 18 #[v] w fun e w' => ((Fine l ∧ e = .returned (.bool true)) ∨ (¬ Fine l ∧ e = .returned (.bool false))) ∧ Below w.heap.size w w' := by
  have HSL := Hd.mk hsl
  have HP := Hd.mk hp
  obtain ⟨A, c, rfl, -⟩ := hsl
  clear hp
  go_enter Tryd.func18, Tryd.ntmps18
  go_wp2_with fail
  refine (rlens_calls HSL.out).mono ?_
  rintro e w1 ⟨rfl, hb1⟩
  have HS1 := Hd.mk (HSL.out.below hb1)
  have HB1 := Hd.mk hb1
  clear hb1
  go_wp2_with fail
  refine (few_calls HS1.out hn (fun p h => Nat.le_trans (HP.out p h) (by unfold maxLen; omega))).mono ?_
  rintro e w2 ⟨hor, hb2⟩
  have HS2 := Hd.mk (HS1.out.below hb2)
  have HB2 := Hd.mk (bstep HB1.out hb2)
  clear hb2
  rcases hor with ⟨hf, rfl⟩ | ⟨hf, rfl⟩
  · have HF := Hd.mk hf
    clear hf
    go_wp2_with fail
    refine (rcheck_calls HS2.out HP.out (wrap_in _)).mono ?_
    rintro e w3 ⟨rfl, hb3⟩
    have HB3 := Hd.mk (bstep HB2.out hb3)
    clear hb3
    by_cases hc : chk l (wrap64 (was l)) = 0
    · have HR : Hd (Fine l) := ⟨HF.out, hc⟩
      rw [hc]
      clear hc
      go_wp2_with fail
      go_ret
      exact ⟨.inl ⟨HR.out, rfl⟩, HB3.out⟩
    · have HR : Hd (¬ Fine l) := ⟨fun h => hc h.2⟩
      generalize chk l (wrap64 (was l)) = z at *
      have hc' : (z == 0) = false := by rw [beq_eq_false_iff_ne]; exact hc
      clear hc
      go_wp2_with fail
      go_ret
      exact ⟨.inr ⟨HR.out, by simp_all⟩, HB3.out⟩
  · have HR : Hd (¬ Fine l) := ⟨fun h => hf h.1⟩
    clear hf
    go_wp2_with fail
    go_ret
    exact ⟨.inr ⟨HR.out, rfl⟩, HB2.out⟩
end Go.Proofs.YtkiigheleoncfaaDoor
