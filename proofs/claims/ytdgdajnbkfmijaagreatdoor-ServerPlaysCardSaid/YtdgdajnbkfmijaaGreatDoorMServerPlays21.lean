/- plain.Same. -/
import Derived.Test.YtdgdajnbkfmijaaGreatDoorMServerPlays11
import Derived.BigQuiet
import Derived.Deep.QuietTactic
namespace Go.Proofs.YtdgdajnbkfmijaaGreatDoor
open Go.RowKit
set_option maxRecDepth 100000
attribute [local go_sem] add_mk
set_option maxHeartbeats 2000000 in
theorem same_calls {l : List PT} {v1 v2 : Value} {n : Nat} {w : World} (hs1 : Sl w 3 v1 n (opv l)) (hs2 : Sl w 3 v2 n (opv l)) :
    Calls Tryz.prog 58 #[v1, v2] w fun e w' => e = .returned (.bool true) ∧ Below w.heap.size w w' := by
  have hln : l.length = n := by have := hs1.len; rw [opv_length] at this; omega
  have hle := hs1.le
  unfold maxLen at hle
  have HS1 := Hd.mk hs1
  have HS2 := Hd.mk hs2
  obtain ⟨A1, x1, rfl, -⟩ := hs1
  obtain ⟨A2, x2, rfl, -⟩ := hs2
  go_enter Tryz.func58, Tryz.ntmps58
  go_wp2_with fail
  go_loopw [13] (fun i wr => ∃ k : Nat, k ≤ n ∧ i = .int .i64 k ∧ Below w.heap.size w wr) (fun i _ => n - (intOf i).toNat)
  case atStart => exact ⟨0, by omega, rfl, (by repeat (first | exact Below.refl _ _ | exact ex_drew (by assumption) | apply ex_drew | apply ex_drewN | apply ex_alloc | assumption))⟩
  case round =>
    obtain ⟨k, hk, rfl, hbel⟩ := hrel
    have HB := Hd.mk hbel
    by_cases hkn : k < n
    · obtain ⟨b, o, c', hv, hlt, c0, c1, c2⟩ := (HS1.out.below hbel).part hkn (by omega)
      cases hv
      obtain ⟨b', o', c'', hv, hlt', d0, d1, d2⟩ := (HS2.out.below hbel).part hkn (by omega)
      cases hv
      have hne := fun w => pt_neq l[k] w
      have hgd := pt_eqGuard
      unfold PT.v at hne
      generalize l[k].keep = x at *
      generalize l[k].drop = y at *
      generalize l[k].put = z at *
      go_wp2_with fail
      go_quiet (fail)
      go_wp2_with fail
      exact ⟨⟨k + 1, by omega, by go_num, (by repeat (first | exact Below.refl _ _ | exact ex_drew (by assumption) | apply ex_drew | apply ex_drewN | apply ex_alloc | assumption))⟩, by simp only [intOf]; omega⟩
    · go_wp2_with fail
      go_ret
      exact ⟨rfl, (by repeat (first | exact Below.refl _ _ | exact ex_drew (by assumption) | apply ex_drew | apply ex_drewN | apply ex_alloc | assumption))⟩
end Go.Proofs.YtdgdajnbkfmijaaGreatDoor
