/- sameRunes, sameHalves. -/
import Derived.Test.YthbhhnfhjppbdaaDoorUtfF
import Derived.Test.YthbhhnfhjppbdaaDoorExt
import Derived.BigQuiet
import Derived.Deep.QuietTactic
import Derived.Deep.Cut
namespace Go.Proofs.YthbhhnfhjppbdaaDoor
open Go.RowKit
set_option maxRecDepth 100000
set_option maxHeartbeats 2000000 in
theorem sameR_calls {l : List Int} {v1 v2 : Value} {n : Nat} {w : World} (h1 : Sl w 1 v1 n (i32s l)) (h2 : Sl w 1 v2 n (i32s l)) (hl : l.length = n) :
    Calls Tryd.prog 21 #[v1, v2] w fun e w' => e = .returned (.bool true) ∧ Below w.heap.size w w' := by
  have hle := h1.le
  unfold maxLen at hle
  have HS1 := Hd.mk h1
  have HS2 := Hd.mk h2
  obtain ⟨A1, c1, rfl, -⟩ := h1
  obtain ⟨A2, c2, rfl, -⟩ := h2
  go_enter Tryd.func21, Tryd.ntmps21
  go_wp2_with fail

  go_loopw [5] (fun i wr => ∃ k : Nat, k ≤ n ∧ i = .int .i64 k ∧ Below w.heap.size w wr) (fun i _ => n - (intOf i).toNat)
  case atStart => exact ⟨0, by omega, rfl, Below.refl _ _⟩
  case round =>
    obtain ⟨k, hk, rfl, hbel⟩ := hrel
    have HB := Hd.mk hbel
    by_cases hkn : k < n
    · obtain ⟨a1, d1, u1, hv1, hlt1, hu1, hc1⟩ := (HS1.out.below hbel).at_ hkn
      cases hv1
      obtain ⟨a2, d2, u2, hv2, hlt2, hu2, hc2⟩ := (HS2.out.below hbel).at_ hkn
      cases hv2
      have e1 : u1 = .int .i32 l[k] := by
        unfold i32s at hu1
        rw [List.getElem?_map, List.getElem?_eq_getElem (by omega)] at hu1
        simpa using hu1.symm
      have e2 : u2 = .int .i32 l[k] := by
        unfold i32s at hu2
        rw [List.getElem?_map, List.getElem?_eq_getElem (by omega)] at hu2
        simpa using hu2.symm
      subst e1 e2
      generalize l[k] = x at *
      have hxx : (x == x) = true := beq_self_eq_true _
      clear hu1 hu2 hbel
      go_upto_region 6 with fail
      go_quiet (fail)
      go_wp2_with fail
      exact ⟨⟨k + 1, by omega, by go_num, by repeat (first | exact HB.out | apply ex_drewN | apply ex_drew)⟩, by simp only [intOf]; omega⟩
    · obtain rfl : k = n := by omega
      clear hbel
      go_wp2_with fail
      go_ret
      exact ⟨rfl, HB.out⟩
set_option maxHeartbeats 2000000 in
theorem sameH_calls {l : List Int} {v1 v2 : Value} {n : Nat} {w : World} (h1 : Sl w 1 v1 n (u16s l)) (h2 : Sl w 1 v2 n (u16s l)) (hl : l.length = n) :
    Calls Tryd.prog 22 #[v1, v2] w fun e w' => e = .returned (.bool true) ∧ Below w.heap.size w w' := by
  have hle := h1.le
  unfold maxLen at hle
  have HS1 := Hd.mk h1
  have HS2 := Hd.mk h2
  obtain ⟨A1, c1, rfl, -⟩ := h1
  obtain ⟨A2, c2, rfl, -⟩ := h2
  go_enter Tryd.func22, Tryd.ntmps22
  go_wp2_with fail

  go_loopw [5] (fun i wr => ∃ k : Nat, k ≤ n ∧ i = .int .i64 k ∧ Below w.heap.size w wr) (fun i _ => n - (intOf i).toNat)
  case atStart => exact ⟨0, by omega, rfl, Below.refl _ _⟩
  case round =>
    obtain ⟨k, hk, rfl, hbel⟩ := hrel
    have HB := Hd.mk hbel
    by_cases hkn : k < n
    · obtain ⟨a1, d1, u1, hv1, hlt1, hu1, hc1⟩ := (HS1.out.below hbel).at_ hkn
      cases hv1
      obtain ⟨a2, d2, u2, hv2, hlt2, hu2, hc2⟩ := (HS2.out.below hbel).at_ hkn
      cases hv2
      have e1 : u1 = .int .u16 l[k] := by
        unfold u16s at hu1
        rw [List.getElem?_map, List.getElem?_eq_getElem (by omega)] at hu1
        simpa using hu1.symm
      have e2 : u2 = .int .u16 l[k] := by
        unfold u16s at hu2
        rw [List.getElem?_map, List.getElem?_eq_getElem (by omega)] at hu2
        simpa using hu2.symm
      subst e1 e2
      generalize l[k] = x at *
      have hxx : (x == x) = true := beq_self_eq_true _
      clear hu1 hu2 hbel
      go_upto_region 6 with fail
      go_quiet (fail)
      go_wp2_with fail
      exact ⟨⟨k + 1, by omega, by go_num, by repeat (first | exact HB.out | apply ex_drewN | apply ex_drew)⟩, by simp only [intOf]; omega⟩
    · obtain rfl : k = n := by omega
      clear hbel
      go_wp2_with fail
      go_ret
      exact ⟨rfl, HB.out⟩
end Go.Proofs.YthbhhnfhjppbdaaDoor
