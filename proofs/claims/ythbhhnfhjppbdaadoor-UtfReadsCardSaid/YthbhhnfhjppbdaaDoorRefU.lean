/- Walks of the reference's in, Rune, Bytes. -/
import Derived.Test.YthbhhnfhjppbdaaDoorUtfF
import Derived.Test.YthbhhnfhjppbdaaDoorExt
namespace Go.Proofs.YthbhhnfhjppbdaaDoor
open Go.RowKit
set_option maxRecDepth 100000
theorem in_calls' (a b c : Int) (w : World) : Calls Tryd.prog 64 #[.int .i64 a, .int .i64 b, .int .i64 c] w fun e w' => e = .returned (.bool (decide (b ≤ a ∧ a ≤ c))) ∧ w = w' := by
  by_cases h1 : b ≤ a
  · by_cases h2 : a ≤ c
    · go_enter Tryd.func64, Tryd.ntmps64
      go_wp2_with fail
      go_ret
      exact ⟨by simp [h1, h2], rfl⟩
    · go_enter Tryd.func64, Tryd.ntmps64
      go_wp2_with fail
      go_ret
      exact ⟨by simp [h2], rfl⟩
  · go_enter Tryd.func64, Tryd.ntmps64
    go_wp2_with fail
    go_ret
    exact ⟨by rw [decide_eq_false (show ¬ b ≤ a by omega)]; rfl, rfl⟩
theorem inT {a b c : Int} (h : b ≤ a ∧ a ≤ c) (w : World) : Calls Tryd.prog 64 #[.int .i64 a, .int .i64 b, .int .i64 c] w fun e w' => e = .returned (.bool true) ∧ w = w' := by
  have := in_calls' a b c w
  rwa [decide_eq_true h] at this
theorem inF {a b c : Int} (h : ¬ (b ≤ a ∧ a ≤ c)) (w : World) : Calls Tryd.prog 64 #[.int .i64 a, .int .i64 b, .int .i64 c] w fun e w' => e = .returned (.bool false) ∧ w = w' := by
  have := in_calls' a b c w
  rwa [decide_eq_false h] at this
theorem rune_calls (r : Int) (w : World) (h1 : -2147483648 ≤ r) (h2 : r ≤ 2147483647) : Calls Tryd.prog 79 #[.int .i32 r] w fun e w' => e = .returned (.bool (U.right r)) ∧ w = w' := by
  by_cases c1 : 0 ≤ r ∧ r ≤ 55295
  · have hr : U.right r = true := U.right_iff.2 (by omega)
    rw [hr]; clear hr
    go_enter Tryd.func79, Tryd.ntmps79
    go_wp2_with (go_at_call 64; refine (inT (by omega) _).mono ?_; rintro e w' ⟨rfl, rfl⟩)
    go_ret
    exact ⟨rfl, rfl⟩
  · by_cases c2 : 57344 ≤ r ∧ r ≤ 1114111
    · have hr : U.right r = true := U.right_iff.2 (by omega)
      rw [hr]; clear hr
      go_enter Tryd.func79, Tryd.ntmps79
      go_wp2_with (go_at_call 64; first | (refine (inF (by omega) _).mono ?_; rintro e w' ⟨rfl, rfl⟩) | (refine (inT (by omega) _).mono ?_; rintro e w' ⟨rfl, rfl⟩))
      go_ret
      exact ⟨rfl, rfl⟩
    · have hr : U.right r = false := by rw [← Bool.not_eq_true, U.right_iff]; omega
      rw [hr]; clear hr
      go_enter Tryd.func79, Tryd.ntmps79
      go_wp2_with (go_at_call 64; refine (inF (by omega) _).mono ?_; rintro e w' ⟨rfl, rfl⟩)
      go_ret
      exact ⟨rfl, rfl⟩
set_option maxHeartbeats 2000000 in
theorem bytes_calls (r : Int) (w : World) (h : U.right r = true) : Calls Tryd.prog 55 #[.int .i32 r] w fun e w' => e = .returned (.string ⟨(U.enc r).toArray⟩) ∧ Below w.heap.size w w' := by
  have hr := U.right_iff.1 h
  have hr0 : 0 ≤ r := by omega
  have hr1 : r ≤ 1114111 := by omega
  clear h hr
  by_cases c1 : r < 128
  · have e0 : U.enc r = [U.by8 r] := by unfold U.enc; rw [if_pos c1]
    have hcv := conv_new (P := Tryd.prog) Tryd.underlying104 Tryd.underlying5 Tryd.underlying9 w #[.int .u8 r] 1 (u8s_by8_1 hr0 (by omega)) rfl (by unfold maxLen; omega)
    have HE := Hd.mk e0
    clear e0
    go_enter Tryd.func55, Tryd.ntmps55
    go_wp2_with fail
    go_ret
    rw [HE.out]
    exact ⟨rfl, (by repeat (first | exact Below.refl _ _ | exact ex_drew (by assumption) | apply ex_drew | apply ex_drewN | apply ex_alloc | assumption))⟩
  by_cases c2 : r < 2048
  · have e0 : U.enc r = [U.by8 (192 + r / 64), U.by8 (128 + r % 64)] := by unfold U.enc; rw [if_neg c1, if_pos c2]
    have hcv := conv_new (P := Tryd.prog) Tryd.underlying104 Tryd.underlying5 Tryd.underlying9 w #[.int .u8 (192 + r / 64), .int .u8 (128 + r % 64)] 2 (u8s_by8_2 (by omega) (by omega) (by omega) (by omega)) rfl (by unfold maxLen; omega)
    have HE := Hd.mk e0
    clear e0
    go_enter Tryd.func55, Tryd.ntmps55
    go_wp2_with fail
    go_ret
    rw [HE.out]
    exact ⟨rfl, (by repeat (first | exact Below.refl _ _ | exact ex_drew (by assumption) | apply ex_drew | apply ex_drewN | apply ex_alloc | assumption))⟩
  by_cases c3 : r < 65536
  · have e0 : U.enc r = [U.by8 (224 + r / 4096), U.by8 (128 + r / 64 % 64), U.by8 (128 + r % 64)] := by unfold U.enc; rw [if_neg c1, if_neg c2, if_pos c3]
    have hcv := conv_new (P := Tryd.prog) Tryd.underlying104 Tryd.underlying5 Tryd.underlying9 w #[.int .u8 (224 + r / 4096), .int .u8 (128 + r / 64 % 64), .int .u8 (128 + r % 64)] 3 (u8s_by8_3 (by omega) (by omega) (by omega) (by omega) (by omega) (by omega)) rfl (by unfold maxLen; omega)
    have HE := Hd.mk e0
    clear e0
    go_enter Tryd.func55, Tryd.ntmps55
    go_wp2_with fail
    go_ret
    rw [HE.out]
    exact ⟨rfl, (by repeat (first | exact Below.refl _ _ | exact ex_drew (by assumption) | apply ex_drew | apply ex_drewN | apply ex_alloc | assumption))⟩
  · have e0 : U.enc r = [U.by8 (240 + r / 262144), U.by8 (128 + r / 4096 % 64), U.by8 (128 + r / 64 % 64), U.by8 (128 + r % 64)] := by unfold U.enc; rw [if_neg c1, if_neg c2, if_neg c3]
    have hcv := conv_new (P := Tryd.prog) Tryd.underlying104 Tryd.underlying5 Tryd.underlying9 w #[.int .u8 (240 + r / 262144), .int .u8 (128 + r / 4096 % 64), .int .u8 (128 + r / 64 % 64), .int .u8 (128 + r % 64)] 4 (u8s_by8_4 (by omega) (by omega) (by omega) (by omega) (by omega) (by omega) (by omega) (by omega)) rfl (by unfold maxLen; omega)
    have HE := Hd.mk e0
    clear e0
    go_enter Tryd.func55, Tryd.ntmps55
    go_wp2_with fail
    go_ret
    rw [HE.out]
    exact ⟨rfl, (by repeat (first | exact Below.refl _ _ | exact ex_drew (by assumption) | apply ex_drew | apply ex_drewN | apply ex_alloc | assumption))⟩
end Go.Proofs.YthbhhnfhjppbdaaDoor
