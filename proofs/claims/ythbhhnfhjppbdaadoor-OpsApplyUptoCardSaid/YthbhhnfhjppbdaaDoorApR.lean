/- edge of both; ref.Apply, ref.Invert. -/
import Derived.Test.YthbhhnfhjppbdaaDoorApM
import Derived.Test.YthbhhnfhjppbdaaDoorRefX2
namespace Go.Proofs.YthbhhnfhjppbdaaDoor
open Go.RowKit
set_option maxRecDepth 100000
set_option maxHeartbeats 1000000 in
theorem oedge_calls (s : U.Bs) (a : Nat) (w : World) (h : a ≤ s.length) :
    Calls Tryd.prog 60 #[.string ⟨s.toArray⟩, .int .i64 a] w fun e w' => e = .returned (.bool (edg s a)) ∧ w' = w := by
  by_cases ha : a = s.length
  · subst ha
    rw [edg_end]
    have hb : ((s.length : Int) == s.length) = true := beq_self _
    go_enter Tryd.func60, Tryd.ntmps60
    go_wp2_with fail
    go_ret
    exact ⟨rfl, rfl⟩
  · have hb : ((a : Int) == s.length) = false := by rw [beq_eq_false_iff_ne]; omega
    have hl : a < s.length := by omega
    have e0 := fun hh => getD_at (s := s) (j := a) hl hh
    by_cases hc : U.cont (U.at_ s a) = true
    · have hE : edg s a = false := by simp [edg, ha, hc]
      rw [hE]
      have h1 := contT hc
      clear hE hc
      generalize U.at_ s a = c at *
      have hc256 : c.toNat < 256 := c.toNat_lt
      go_enter Tryd.func60, Tryd.ntmps60
      go_wp2_with fail
      go_ret
      exact ⟨rfl, rfl⟩
    · have hE : edg s a = true := by simp [edg, hc]
      rw [hE]
      have h1 := contF hc
      clear hE hc
      generalize U.at_ s a = c at *
      have hc256 : c.toNat < 256 := c.toNat_lt
      go_enter Tryd.func60, Tryd.ntmps60
      go_wp2_with fail
      go_ret
      exact ⟨rfl, rfl⟩
def c_lt (c : UInt8) : Prop := c.toNat < 128 ∨ 192 ≤ c.toNat
set_option maxHeartbeats 1000000 in
theorem redge_calls (s : U.Bs) (a : Nat) (w : World) (h : a ≤ s.length) :
    Calls Tryd.prog 58 #[.string ⟨s.toArray⟩, .int .i64 a] w fun e w' => e = .returned (.bool (edg s a)) ∧ w' = w := by
  by_cases ha : a = s.length
  · subst ha
    rw [edg_end]
    have hb : ((s.length : Int) == s.length) = true := beq_self _
    go_enter Tryd.func58, Tryd.ntmps58
    go_wp2_with fail
    go_ret
    exact ⟨rfl, rfl⟩
  · have hb : ((a : Int) == s.length) = false := by rw [beq_eq_false_iff_ne]; omega
    have hl : a < s.length := by omega
    have e0 := fun hh => getD_at (s := s) (j := a) hl hh
    have hcc := @U.cont_iff (U.at_ s a)
    by_cases hc : U.cont (U.at_ s a) = true
    · have hE : edg s a = false := by simp [edg, ha, hc]
      rw [hE]
      obtain ⟨h1, h2⟩ := hcc.1 hc
      clear hE hc hcc
      generalize U.at_ s a = c at *
      have HV : Hd (decide (192 ≤ (c.toNat : Int)) = false) := ⟨by simp; omega⟩
      have h1' : ¬ ((c.toNat : Int) < 128) := by omega
      clear h1 h2
      go_enter Tryd.func58, Tryd.ntmps58
      go_wp2_with fail
      go_ret
      refine ⟨?_, rfl⟩
      rw [← HV.out]
      rfl
    · have hE : edg s a = true := by simp [edg, hc]
      rw [hE]
      have h1 : c_lt (U.at_ s a) := by
        unfold c_lt
        rcases Nat.lt_or_ge (U.at_ s a).toNat 128 with h | h
        · exact .inl h
        · rcases Nat.lt_or_ge (U.at_ s a).toNat 192 with h' | h'
          · exact absurd (hcc.2 ⟨h, h'⟩) hc
          · exact .inr h'
      clear hE hc hcc
      generalize U.at_ s a = c at *
      unfold c_lt at h1
      by_cases h2 : (c.toNat : Int) < 128
      · clear h1
        go_enter Tryd.func58, Tryd.ntmps58
        go_wp2_with fail
        go_ret
        exact ⟨rfl, rfl⟩
      · have HV : Hd (decide (192 ≤ (c.toNat : Int)) = true) := ⟨by simp; omega⟩
        clear h1
        go_enter Tryd.func58, Tryd.ntmps58
        go_wp2_with fail
        go_ret
        refine ⟨?_, rfl⟩
        rw [← HV.out]
        rfl
end Go.Proofs.YthbhhnfhjppbdaaDoor
