/- edge of both; ref.Apply, ref.Invert. -/
import Derived.Test.YtdgdajnbkfmijaaGreatDoorMServerPlays36
namespace Go.Proofs.YtdgdajnbkfmijaaGreatDoor
open Go.RowKit
set_option maxRecDepth 100000
set_option maxHeartbeats 1000000 in
theorem oedge_calls (s : U.Bs) (a : Nat) (w : World) (h : a ≤ s.length) :
    Calls Tryz.prog 140 #[.string ⟨s.toArray⟩, .int .i64 a] w fun e w' => e = .returned (.bool (edg s a)) ∧ w' = w := by
  by_cases ha : a = s.length
  · subst ha
    rw [edg_end]
    have hb : ((s.length : Int) == s.length) = true := beq_self_eq_true _
    go_enter Tryz.func140, Tryz.ntmps140
    go_wp2_with fail
    go_ret
    exact ⟨rfl, rfl⟩
  · have hb : ((a : Int) == s.length) = false := by rw [beq_eq_false_iff_ne]; omega
    have hl : a < s.length := by omega
    have e0 := fun hh => getD_at (s := s) (j := a) hl hh
    by_cases hc : U.cont (U.at_ s a) = true
    · have hE : edg s a = false := by simp [edg, ha, hc]
      rw [hE]
      have h1 := contT hc
      clear hE hc
      generalize U.at_ s a = c at *
      have hc256 : c.toNat < 256 := c.toNat_lt
      go_enter Tryz.func140, Tryz.ntmps140
      go_wp2_with fail
      go_ret
      exact ⟨rfl, rfl⟩
    · have hE : edg s a = true := by simp [edg, hc]
      rw [hE]
      have h1 := contF hc
      clear hE hc
      generalize U.at_ s a = c at *
      have hc256 : c.toNat < 256 := c.toNat_lt
      go_enter Tryz.func140, Tryz.ntmps140
      go_wp2_with fail
      go_ret
      exact ⟨rfl, rfl⟩
end Go.Proofs.YtdgdajnbkfmijaaGreatDoor
