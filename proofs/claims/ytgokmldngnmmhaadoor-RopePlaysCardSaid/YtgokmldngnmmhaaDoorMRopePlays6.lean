/- Several texts of the proof, one behind the other: RefF, EdgR, AsF, AsW, Err, RefT. -/
import Derived.Test.YtgokmldngnmmhaaDoorMRopePlays5
import Derived.Test.YtgokmldngnmmhaaDoorMRopePlays2
import Derived.Deep.RegionHeld3
import Derived.BigQuiet
import Derived.Deep.QuietTactic
import Derived.Deep.DrawnRows
import Derived.LaidEql
import Derived.Stop.Asserts
import Derived.RowKitTokens
import Derived.Test.YtgokmldngnmmhaaDoorMRopePlays1
/- The reference's first. -/
namespace Go.Proofs.YtgokmldngnmmhaaDoor
open Go.RowKit
set_option maxRecDepth 100000
namespace U
def at_ (s : Bs) (j : Nat) : UInt8 := s.getD j 0
/-- What first takes of so many bytes. -/
def cand (s : Bs) (n : Nat) : Int :=
  match n with
  | 1 => (at_ s 0).toNat
  | 2 => ((at_ s 0).toNat : Int) % 32 * 64 + ((at_ s 1).toNat : Int) % 64
  | 3 => ((at_ s 0).toNat : Int) % 16 * 4096 + ((at_ s 1).toNat : Int) % 64 * 64 + ((at_ s 2).toNat : Int) % 64
  | _ => ((at_ s 0).toNat : Int) % 8 * 262144 + ((at_ s 1).toNat : Int) % 64 * 4096 + ((at_ s 2).toNat : Int) % 64 * 64 + ((at_ s 3).toNat : Int) % 64
theorem cand_hit {s : Bs} {r : Int} {n : Nat} (h : next s = (r, n)) (hn : n ≠ 0) : cand s n = r := by
  rcases s with _ | ⟨a, t⟩
  · simp only [next, Prod.mk.injEq] at h
    exact absurd h.2.symm hn
  · simp only [next] at h
    repeat' split at h
    all_goals simp only [Prod.mk.injEq] at h
    all_goals obtain ⟨rfl, rfl⟩ := h
    all_goals first | exact absurd rfl hn | (simp [cand, at_]; done) | (simp [cand, at_, r2]; done) | (simp [cand, at_, r3]; omega) | (simp [cand, at_, r4]; omega)
theorem cand_take {s : Bs} {n : Nat} (hr : right (cand s n) = true) (he : enc (cand s n) = s.take n) (hn : n ≤ s.length) : next s = (cand s n, n) := by
  have h1 : wid (cand s n) = n := by
    have := congrArg List.length he
    rw [enc_length, List.length_take] at this
    omega
  have h2 := next_enc hr (s.drop n)
  rw [he, List.take_append_drop, h1] at h2
  exact h2
theorem cand_lo (s : Bs) (n : Nat) : 0 ≤ cand s n := by unfold cand; split <;> omega
theorem cand_hi (s : Bs) (n : Nat) : cand s n ≤ 2097151 := by
  have := (at_ s 0).toNat_lt
  unfold cand; split <;> omega
end U
theorem ext_take {s : U.Bs} {k : Nat} (hk : k ≤ s.length) : (ByteArray.mk s.toArray).extract 0 k = ⟨(s.take k).toArray⟩ := by
  simp [ByteArray.extract, ByteArray.copySlice, hk]
theorem getD_at {s : U.Bs} {j : Nat} (h : j < s.length) (hh) : (ByteArray.mk s.toArray)[j]'hh = U.at_ s j := by
  have : (ByteArray.mk s.toArray)[j]'hh = s[j] := rfl
  rw [this]; simp [h, U.at_]
theorem rune_q (r : Int) (w : World) (h1 : -2147483648 ≤ r) (h2 : r ≤ 2147483647) (h : U.right r = false) : Calls Tryd.prog 115 #[.int .i32 r] w fun e w' => e = .returned (.bool false) ∧ ∃ n, w' = w.drewN n :=
  (rune_calls r w h1 h2).mono fun e w' ⟨he, hw⟩ => by subst hw; rw [h] at he; exact ⟨he, 0, rfl⟩
attribute [local go_sem ↓] Go.wp_at_zero Go.wp_at_succ
set_option maxHeartbeats 4000000 in
theorem first_calls {s : U.Bs} (hs : s.length ≤ 140737488351232) (w : World) :
    Calls Tryd.prog 69 #[.string ⟨s.toArray⟩] w fun e w' => e = .returned (.tuple #[.int .i32 (U.next s).1, .int .i64 (U.next s).2]) ∧ Below w.heap.size w w' := by
  go_enter Tryd.func69, Tryd.ntmps69
  go_wp2_with fail
  go_loopw [4] (fun i wr => ∃ k : Nat, 1 ≤ k ∧ k ≤ 5 ∧ i = .int .i64 k ∧ ((U.next s).2 = 0 ∨ k ≤ (U.next s).2) ∧ Below w.heap.size w wr) (fun i _ => 5 - (intOf i).toNat)
  case atStart => exact ⟨1, by omega, by omega, rfl, by omega, (by repeat (first | exact Below.refl _ _ | exact ex_drew (by assumption) | apply ex_drew | apply ex_drewN | apply ex_alloc | assumption))⟩
  case round =>
    obtain ⟨k, h1, h5, rfl, hnx, hbel⟩ := hrel
    have HB := Hd.mk hbel
    have HNX := Hd.mk hnx
    clear hnx
    by_cases hk : k ≤ 4 ∧ k ≤ s.length
    · obtain ⟨hk4, hkl⟩ := hk
      obtain rfl | rfl | rfl | rfl : k = 1 ∨ k = 2 ∨ k = 3 ∨ k = 4 := by omega
      · have e0 := fun hh => getD_at (s := s) (j := 0) (by omega) hh
        have b0 : (U.at_ s 0).toNat < 256 := (U.at_ s 0).toNat_lt
        have ht := ext_take hkl
        have hc : ((U.at_ s 0).toNat : Int) = U.cand s 1 := rfl
        have HC := Hd.mk hc
        clear hc
        go_wp2_with fail
        rw [HC.out]
        have hlo := U.cand_lo s 1
        have hhi := U.cand_hi s 1
        have hct := U.cand_take (s := s) (n := 1)
        have hch := U.cand_hit (s := s) (r := (U.next s).1) (n := 1)
        generalize U.cand s 1 = c at *
        have HCT := Hd.mk hct
        have HCH := Hd.mk hch
        clear e0 b0
        clear hct hch HC
        by_cases hr : U.right c = true
        · by_cases he : U.enc c = s.take 1
          · have HR := Hd.mk hr
            have HE := Hd.mk he
            have hq : (U.enc c == s.take 1) = true := by rw [he]; exact beq_self_eq_true _
            clear hr he
            go_region_held3 (fun w' => Below wr.heap.size wr w' ∧ wr.heap.size ≤ w'.heap.size ∧ ∀ b o, b < wr.heap.size → w'.cell? ⟨b, o, none⟩ = wr.cell? ⟨b, o, none⟩)
              (first | exact ext_start rfl | exact ext_call (by assumption) (by assumption) | assumption)
              (first | (go_at_call 115; refine (rune_calls c _ (by omega) (by omega)).mono ?_; rw [HR.out]; rintro e w' ⟨rfl, rfl⟩) | (go_at_call 75; refine (bytes_calls c _ HR.out).mono ?_; rintro e w' ⟨rfl, hb'⟩))
            have HW := Hd.mk (bstep HB.out (by assumption : Below wr.heap.size wr w' ∧ _).1)
            go_wp2_with fail
            refine bodyPost_ret (v := .tuple #[.int .i32 c, .int .i64 1]) (by simp [results, Tryd.results69, go_sem]) rfl ?_
            rw [HCT.out HR.out HE.out (by omega)]
            exact ⟨rfl, HW.out⟩
          · have HR := Hd.mk hr
            have hq : (U.enc c == s.take 1) = false := by rw [beq_eq_false_iff_ne]; exact he
            have HE := Hd.mk he
            clear hr he
            go_region_held3 (fun w' => Below wr.heap.size wr w' ∧ wr.heap.size ≤ w'.heap.size ∧ ∀ b o, b < wr.heap.size → w'.cell? ⟨b, o, none⟩ = wr.cell? ⟨b, o, none⟩)
              (first | exact ext_start rfl | exact ext_call (by assumption) (by assumption) | assumption)
              (first | (go_at_call 115; refine (rune_calls c _ (by omega) (by omega)).mono ?_; rw [HR.out]; rintro e w' ⟨rfl, rfl⟩) | (go_at_call 75; refine (bytes_calls c _ HR.out).mono ?_; rintro e w' ⟨rfl, hb'⟩))
            have HW := Hd.mk (bstep HB.out (by assumption : Below wr.heap.size wr w' ∧ _).1)
            go_wp2_with fail
            refine ⟨⟨2, by omega, by omega, rfl, ?_, HW.out⟩, by simp [intOf]⟩
            have := HNX.out
            by_cases h2 : (U.next s).2 = 1
            · exfalso
              have h3 := HCH.out (Prod.ext rfl h2) (by omega)
              have h4 := U.next_pos s (by omega)
              rw [← h3, h2] at h4
              exact HE.out (by rw [h4.2.2, List.take_left' (by rw [U.enc_length]; exact h4.2.1.symm)])
            · omega
        · have hrf : U.right c = false := by simpa using hr
          have HR := Hd.mk hrf
          clear hr hrf
          go_quiet (first | (go_at_call 115; exact Calls.quiet_of (rune_q c _ (by omega) (by omega) HR.out)))
          go_wp2_with fail
          refine ⟨⟨2, by omega, by omega, rfl, ?_, (by apply ex_drewN; exact HB.out)⟩, by simp [intOf]⟩
          have := HNX.out
          by_cases h2 : (U.next s).2 = 1
          · exfalso
            have h3 := HCH.out (Prod.ext rfl h2) (by omega)
            have h4 := U.next_pos s (by omega)
            rw [← h3, HR.out] at h4
            exact absurd h4.1 (by simp)
          · omega
      · have e0 := fun hh => getD_at (s := s) (j := 0) (by omega) hh
        have b0 : (U.at_ s 0).toNat < 256 := (U.at_ s 0).toNat_lt
        have e1 := fun hh => getD_at (s := s) (j := 1) (by omega) hh
        have b1 : (U.at_ s 1).toNat < 256 := (U.at_ s 1).toNat_lt
        have ht := ext_take hkl
        have hc : ((U.at_ s 0).toNat : Int) % 32 * 64 + ((U.at_ s 1).toNat : Int) % 64 = U.cand s 2 := rfl
        have HC := Hd.mk hc
        clear hc
        go_wp2_with fail
        go_quiet (fail)
        go_wp2_with fail
        have hbq : Below w.heap.size w (wr.drewN nq) := by apply ex_drewN; exact HB.out
        clear HB hbel
        generalize wr.drewN nq = wq at *
        have HB := Hd.mk hbq
        clear hbq
        rw [HC.out]
        have hlo := U.cand_lo s 2
        have hhi := U.cand_hi s 2
        have hct := U.cand_take (s := s) (n := 2)
        have hch := U.cand_hit (s := s) (r := (U.next s).1) (n := 2)
        generalize U.cand s 2 = c at *
        have HCT := Hd.mk hct
        have HCH := Hd.mk hch
        clear e0 b0
        clear e1 b1
        clear hct hch HC
        by_cases hr : U.right c = true
        · by_cases he : U.enc c = s.take 2
          · have HR := Hd.mk hr
            have HE := Hd.mk he
            have hq : (U.enc c == s.take 2) = true := by rw [he]; exact beq_self_eq_true _
            clear hr he
            go_region_held3 (fun w' => Below wq.heap.size wq w' ∧ wq.heap.size ≤ w'.heap.size ∧ ∀ b o, b < wq.heap.size → w'.cell? ⟨b, o, none⟩ = wq.cell? ⟨b, o, none⟩)
              (first | exact ext_start rfl | exact ext_call (by assumption) (by assumption) | assumption)
              (first | (go_at_call 115; refine (rune_calls c _ (by omega) (by omega)).mono ?_; rw [HR.out]; rintro e w' ⟨rfl, rfl⟩) | (go_at_call 75; refine (bytes_calls c _ HR.out).mono ?_; rintro e w' ⟨rfl, hb'⟩))
            have HW := Hd.mk (bstep HB.out (by assumption : Below wq.heap.size wq w' ∧ _).1)
            go_wp2_with fail
            refine bodyPost_ret (v := .tuple #[.int .i32 c, .int .i64 2]) (by simp [results, Tryd.results69, go_sem]) rfl ?_
            rw [HCT.out HR.out HE.out (by omega)]
            exact ⟨rfl, HW.out⟩
          · have HR := Hd.mk hr
            have hq : (U.enc c == s.take 2) = false := by rw [beq_eq_false_iff_ne]; exact he
            have HE := Hd.mk he
            clear hr he
            go_region_held3 (fun w' => Below wq.heap.size wq w' ∧ wq.heap.size ≤ w'.heap.size ∧ ∀ b o, b < wq.heap.size → w'.cell? ⟨b, o, none⟩ = wq.cell? ⟨b, o, none⟩)
              (first | exact ext_start rfl | exact ext_call (by assumption) (by assumption) | assumption)
              (first | (go_at_call 115; refine (rune_calls c _ (by omega) (by omega)).mono ?_; rw [HR.out]; rintro e w' ⟨rfl, rfl⟩) | (go_at_call 75; refine (bytes_calls c _ HR.out).mono ?_; rintro e w' ⟨rfl, hb'⟩))
            have HW := Hd.mk (bstep HB.out (by assumption : Below wq.heap.size wq w' ∧ _).1)
            go_wp2_with fail
            refine ⟨⟨3, by omega, by omega, rfl, ?_, HW.out⟩, by simp [intOf]⟩
            have := HNX.out
            by_cases h2 : (U.next s).2 = 2
            · exfalso
              have h3 := HCH.out (Prod.ext rfl h2) (by omega)
              have h4 := U.next_pos s (by omega)
              rw [← h3, h2] at h4
              exact HE.out (by rw [h4.2.2, List.take_left' (by rw [U.enc_length]; exact h4.2.1.symm)])
            · omega
        · have hrf : U.right c = false := by simpa using hr
          have HR := Hd.mk hrf
          clear hr hrf
          go_quiet (first | (go_at_call 115; exact Calls.quiet_of (rune_q c _ (by omega) (by omega) HR.out)))
          go_wp2_with fail
          refine ⟨⟨3, by omega, by omega, rfl, ?_, (by apply ex_drewN; exact HB.out)⟩, by simp [intOf]⟩
          have := HNX.out
          by_cases h2 : (U.next s).2 = 2
          · exfalso
            have h3 := HCH.out (Prod.ext rfl h2) (by omega)
            have h4 := U.next_pos s (by omega)
            rw [← h3, HR.out] at h4
            exact absurd h4.1 (by simp)
          · omega
      · have e0 := fun hh => getD_at (s := s) (j := 0) (by omega) hh
        have b0 : (U.at_ s 0).toNat < 256 := (U.at_ s 0).toNat_lt
        have e1 := fun hh => getD_at (s := s) (j := 1) (by omega) hh
        have b1 : (U.at_ s 1).toNat < 256 := (U.at_ s 1).toNat_lt
        have e2 := fun hh => getD_at (s := s) (j := 2) (by omega) hh
        have b2 : (U.at_ s 2).toNat < 256 := (U.at_ s 2).toNat_lt
        have ht := ext_take hkl
        have hc : ((U.at_ s 0).toNat : Int) % 16 * 4096 + ((U.at_ s 1).toNat : Int) % 64 * 64 + ((U.at_ s 2).toNat : Int) % 64 = U.cand s 3 := rfl
        have HC := Hd.mk hc
        clear hc
        go_wp2_with fail
        go_quiet (fail)
        go_wp2_with fail
        have hbq : Below w.heap.size w (wr.drewN nq) := by apply ex_drewN; exact HB.out
        clear HB hbel
        generalize wr.drewN nq = wq at *
        have HB := Hd.mk hbq
        clear hbq
        rw [HC.out]
        have hlo := U.cand_lo s 3
        have hhi := U.cand_hi s 3
        have hct := U.cand_take (s := s) (n := 3)
        have hch := U.cand_hit (s := s) (r := (U.next s).1) (n := 3)
        generalize U.cand s 3 = c at *
        have HCT := Hd.mk hct
        have HCH := Hd.mk hch
        clear e0 b0
        clear e1 b1
        clear e2 b2
        clear hct hch HC
        by_cases hr : U.right c = true
        · by_cases he : U.enc c = s.take 3
          · have HR := Hd.mk hr
            have HE := Hd.mk he
            have hq : (U.enc c == s.take 3) = true := by rw [he]; exact beq_self_eq_true _
            clear hr he
            go_region_held3 (fun w' => Below wq.heap.size wq w' ∧ wq.heap.size ≤ w'.heap.size ∧ ∀ b o, b < wq.heap.size → w'.cell? ⟨b, o, none⟩ = wq.cell? ⟨b, o, none⟩)
              (first | exact ext_start rfl | exact ext_call (by assumption) (by assumption) | assumption)
              (first | (go_at_call 115; refine (rune_calls c _ (by omega) (by omega)).mono ?_; rw [HR.out]; rintro e w' ⟨rfl, rfl⟩) | (go_at_call 75; refine (bytes_calls c _ HR.out).mono ?_; rintro e w' ⟨rfl, hb'⟩))
            have HW := Hd.mk (bstep HB.out (by assumption : Below wq.heap.size wq w' ∧ _).1)
            go_wp2_with fail
            refine bodyPost_ret (v := .tuple #[.int .i32 c, .int .i64 3]) (by simp [results, Tryd.results69, go_sem]) rfl ?_
            rw [HCT.out HR.out HE.out (by omega)]
            exact ⟨rfl, HW.out⟩
          · have HR := Hd.mk hr
            have hq : (U.enc c == s.take 3) = false := by rw [beq_eq_false_iff_ne]; exact he
            have HE := Hd.mk he
            clear hr he
            go_region_held3 (fun w' => Below wq.heap.size wq w' ∧ wq.heap.size ≤ w'.heap.size ∧ ∀ b o, b < wq.heap.size → w'.cell? ⟨b, o, none⟩ = wq.cell? ⟨b, o, none⟩)
              (first | exact ext_start rfl | exact ext_call (by assumption) (by assumption) | assumption)
              (first | (go_at_call 115; refine (rune_calls c _ (by omega) (by omega)).mono ?_; rw [HR.out]; rintro e w' ⟨rfl, rfl⟩) | (go_at_call 75; refine (bytes_calls c _ HR.out).mono ?_; rintro e w' ⟨rfl, hb'⟩))
            have HW := Hd.mk (bstep HB.out (by assumption : Below wq.heap.size wq w' ∧ _).1)
            go_wp2_with fail
            refine ⟨⟨4, by omega, by omega, rfl, ?_, HW.out⟩, by simp [intOf]⟩
            have := HNX.out
            by_cases h2 : (U.next s).2 = 3
            · exfalso
              have h3 := HCH.out (Prod.ext rfl h2) (by omega)
              have h4 := U.next_pos s (by omega)
              rw [← h3, h2] at h4
              exact HE.out (by rw [h4.2.2, List.take_left' (by rw [U.enc_length]; exact h4.2.1.symm)])
            · omega
        · have hrf : U.right c = false := by simpa using hr
          have HR := Hd.mk hrf
          clear hr hrf
          go_quiet (first | (go_at_call 115; exact Calls.quiet_of (rune_q c _ (by omega) (by omega) HR.out)))
          go_wp2_with fail
          refine ⟨⟨4, by omega, by omega, rfl, ?_, (by apply ex_drewN; exact HB.out)⟩, by simp [intOf]⟩
          have := HNX.out
          by_cases h2 : (U.next s).2 = 3
          · exfalso
            have h3 := HCH.out (Prod.ext rfl h2) (by omega)
            have h4 := U.next_pos s (by omega)
            rw [← h3, HR.out] at h4
            exact absurd h4.1 (by simp)
          · omega
      · have e0 := fun hh => getD_at (s := s) (j := 0) (by omega) hh
        have b0 : (U.at_ s 0).toNat < 256 := (U.at_ s 0).toNat_lt
        have e1 := fun hh => getD_at (s := s) (j := 1) (by omega) hh
        have b1 : (U.at_ s 1).toNat < 256 := (U.at_ s 1).toNat_lt
        have e2 := fun hh => getD_at (s := s) (j := 2) (by omega) hh
        have b2 : (U.at_ s 2).toNat < 256 := (U.at_ s 2).toNat_lt
        have e3 := fun hh => getD_at (s := s) (j := 3) (by omega) hh
        have b3 : (U.at_ s 3).toNat < 256 := (U.at_ s 3).toNat_lt
        have ht := ext_take hkl
        have hc : ((U.at_ s 0).toNat : Int) % 8 * 262144 + ((U.at_ s 1).toNat : Int) % 64 * 4096 + ((U.at_ s 2).toNat : Int) % 64 * 64 + ((U.at_ s 3).toNat : Int) % 64 = U.cand s 4 := rfl
        have HC := Hd.mk hc
        clear hc
        go_wp2_with fail
        go_quiet (fail)
        go_wp2_with fail
        have hbq : Below w.heap.size w (wr.drewN nq) := by apply ex_drewN; exact HB.out
        clear HB hbel
        generalize wr.drewN nq = wq at *
        have HB := Hd.mk hbq
        clear hbq
        rw [HC.out]
        have hlo := U.cand_lo s 4
        have hhi := U.cand_hi s 4
        have hct := U.cand_take (s := s) (n := 4)
        have hch := U.cand_hit (s := s) (r := (U.next s).1) (n := 4)
        generalize U.cand s 4 = c at *
        have HCT := Hd.mk hct
        have HCH := Hd.mk hch
        clear e0 b0
        clear e1 b1
        clear e2 b2
        clear e3 b3
        clear hct hch HC
        by_cases hr : U.right c = true
        · by_cases he : U.enc c = s.take 4
          · have HR := Hd.mk hr
            have HE := Hd.mk he
            have hq : (U.enc c == s.take 4) = true := by rw [he]; exact beq_self_eq_true _
            clear hr he
            go_region_held3 (fun w' => Below wq.heap.size wq w' ∧ wq.heap.size ≤ w'.heap.size ∧ ∀ b o, b < wq.heap.size → w'.cell? ⟨b, o, none⟩ = wq.cell? ⟨b, o, none⟩)
              (first | exact ext_start rfl | exact ext_call (by assumption) (by assumption) | assumption)
              (first | (go_at_call 115; refine (rune_calls c _ (by omega) (by omega)).mono ?_; rw [HR.out]; rintro e w' ⟨rfl, rfl⟩) | (go_at_call 75; refine (bytes_calls c _ HR.out).mono ?_; rintro e w' ⟨rfl, hb'⟩))
            have HW := Hd.mk (bstep HB.out (by assumption : Below wq.heap.size wq w' ∧ _).1)
            go_wp2_with fail
            refine bodyPost_ret (v := .tuple #[.int .i32 c, .int .i64 4]) (by simp [results, Tryd.results69, go_sem]) rfl ?_
            rw [HCT.out HR.out HE.out (by omega)]
            exact ⟨rfl, HW.out⟩
          · have HR := Hd.mk hr
            have hq : (U.enc c == s.take 4) = false := by rw [beq_eq_false_iff_ne]; exact he
            have HE := Hd.mk he
            clear hr he
            go_region_held3 (fun w' => Below wq.heap.size wq w' ∧ wq.heap.size ≤ w'.heap.size ∧ ∀ b o, b < wq.heap.size → w'.cell? ⟨b, o, none⟩ = wq.cell? ⟨b, o, none⟩)
              (first | exact ext_start rfl | exact ext_call (by assumption) (by assumption) | assumption)
              (first | (go_at_call 115; refine (rune_calls c _ (by omega) (by omega)).mono ?_; rw [HR.out]; rintro e w' ⟨rfl, rfl⟩) | (go_at_call 75; refine (bytes_calls c _ HR.out).mono ?_; rintro e w' ⟨rfl, hb'⟩))
            have HW := Hd.mk (bstep HB.out (by assumption : Below wq.heap.size wq w' ∧ _).1)
            go_wp2_with fail
            refine ⟨⟨5, by omega, by omega, rfl, ?_, HW.out⟩, by simp [intOf]⟩
            have := HNX.out
            by_cases h2 : (U.next s).2 = 4
            · exfalso
              have h3 := HCH.out (Prod.ext rfl h2) (by omega)
              have h4 := U.next_pos s (by omega)
              rw [← h3, h2] at h4
              exact HE.out (by rw [h4.2.2, List.take_left' (by rw [U.enc_length]; exact h4.2.1.symm)])
            · omega
        · have hrf : U.right c = false := by simpa using hr
          have HR := Hd.mk hrf
          clear hr hrf
          go_quiet (first | (go_at_call 115; exact Calls.quiet_of (rune_q c _ (by omega) (by omega) HR.out)))
          go_wp2_with fail
          refine ⟨⟨5, by omega, by omega, rfl, ?_, (by apply ex_drewN; exact HB.out)⟩, by simp [intOf]⟩
          have := HNX.out
          by_cases h2 : (U.next s).2 = 4
          · exfalso
            have h3 := HCH.out (Prod.ext rfl h2) (by omega)
            have h4 := U.next_pos s (by omega)
            rw [← h3, HR.out] at h4
            exact absurd h4.1 (by simp)
          · omega
    · have hnx : U.next s = (0, 0) := by
        have := HNX.out
        have h2 := U.next_le s
        refine U.next_zero ?_
        by_cases h0 : (U.next s).2 = 0
        · exact h0
        · exfalso
          have h4 := U.next_pos s h0
          have h6 := U.wid_le (U.next s).1
          omega
      have HNZ := Hd.mk hnx
      clear hnx
      by_cases hk4 : k ≤ 4
      · have hkl : s.length < k := by omega
        clear hk
        go_wp2_with fail
        refine bodyPost_ret (v := .tuple #[.int .i32 0, .int .i64 0]) (by simp [results, Tryd.results69, go_sem]) rfl ?_
        rw [HNZ.out]
        exact ⟨rfl, HB.out⟩
      · obtain rfl : k = 5 := by omega
        clear hk
        go_wp2_with fail
        refine bodyPost_ret (v := .tuple #[.int .i32 0, .int .i64 0]) (by simp [results, Tryd.results69, go_sem]) rfl ?_
        rw [HNZ.out]
        exact ⟨rfl, HB.out⟩
end Go.Proofs.YtgokmldngnmmhaaDoor
/- The reference's edge. -/
namespace Go.Proofs.YtgokmldngnmmhaaDoor
open Go.RowKit
set_option maxRecDepth 100000
/-- A rune begins at a place, or the text ends there. -/
def edg (s : U.Bs) (a : Nat) : Bool := decide (a = s.length) || !(U.cont (U.at_ s a))
theorem edg_end (s : U.Bs) : edg s s.length = true := by simp [edg]
def c_lt (c : UInt8) : Prop := c.toNat < 128 ∨ 192 ≤ c.toNat
set_option maxHeartbeats 1000000 in
theorem redge_calls (s : U.Bs) (a : Nat) (w : World) (h : a ≤ s.length) :
    Calls Tryd.prog 78 #[.string ⟨s.toArray⟩, .int .i64 a] w fun e w' => e = .returned (.bool (edg s a)) ∧ w' = w := by
  by_cases ha : a = s.length
  · subst ha
    rw [edg_end]
    have hb : ((s.length : Int) == s.length) = true := by rw [beq_iff_eq]
    go_enter Tryd.func78, Tryd.ntmps78
    go_wp2_with fail
    go_ret
    exact ⟨rfl, rfl⟩
  · have hb : ((a : Int) == s.length) = false := by rw [beq_eq_false_iff_ne]; omega
    have hl : a < s.length := by omega
    have e0 := fun hh => getD_at (s := s) (j := a) hl hh
    have hcc := @U.cont_iff (U.at_ s a)
    by_cases hc : U.cont (U.at_ s a) = true
    · have hE : edg s a = false := by simp [edg, ha, hc]
      rw [hE]
      obtain ⟨h1, h2⟩ := hcc.1 hc
      clear hE hc hcc
      generalize U.at_ s a = c at *
      have HV : Hd (decide (192 ≤ (c.toNat : Int)) = false) := ⟨by simp; omega⟩
      have h1' : ¬ ((c.toNat : Int) < 128) := by omega
      clear h1 h2
      go_enter Tryd.func78, Tryd.ntmps78
      go_wp2_with fail
      go_ret
      refine ⟨?_, rfl⟩
      rw [← HV.out]
      rfl
    · have hE : edg s a = true := by simp [edg, hc]
      rw [hE]
      have h1 : c_lt (U.at_ s a) := by
        unfold c_lt
        rcases Nat.lt_or_ge (U.at_ s a).toNat 128 with h | h
        · exact .inl h
        · rcases Nat.lt_or_ge (U.at_ s a).toNat 192 with h' | h'
          · exact absurd (hcc.2 ⟨h, h'⟩) hc
          · exact .inr h'
      clear hE hc hcc
      generalize U.at_ s a = c at *
      unfold c_lt at h1
      by_cases h2 : (c.toNat : Int) < 128
      · clear h1
        go_enter Tryd.func78, Tryd.ntmps78
        go_wp2_with fail
        go_ret
        exact ⟨rfl, rfl⟩
      · have HV : Hd (decide (192 ≤ (c.toNat : Int)) = true) := ⟨by simp; omega⟩
        clear h1
        go_enter Tryd.func78, Tryd.ntmps78
        go_wp2_with fail
        go_ret
        refine ⟨?_, rfl⟩
        rw [← HV.out]
        rfl
end Go.Proofs.YtgokmldngnmmhaaDoor
/- errors.As at the target *api.Errno, by its contracts: closed facts on the model's entries for internal/reflectlite at this program's types. After the guide's worked example ToyasAs. -/
namespace Go.Proofs.YtgokmldngnmmhaaDoor
open Go.RowKit Go.Extern.Stop Go.Stop Go.Extern
set_option maxRecDepth 100000
theorem as_valueOfP (t : Addr) (w : World) : (ReflectliteValue.unpack (.iface 191 (.pointer (some t)))).run Tryd.prog w
    = .ok (.agg #[.pointer (some ⟨2, 191, none⟩), .pointer (some ⟨w.heap.size, 0, none⟩), .int .u64 150]) (w.alloc (.cells #[.pointer (some t)] 191)) := by kernel_rfl
theorem as_typeP (a : Addr) (w : World) : (ReflectliteValue.methodAny (ReflectliteValue.valueError "reflectlite.Value.Type" 0) (fun t _ _ _ => ReflectliteType.toType t) #[.agg #[.pointer (some ⟨2, 191, none⟩), .pointer (some a), .int .u64 150]]).run Tryd.prog w
    = .ok (.iface 224 (.agg #[.pointer (some ⟨2, 191, none⟩)])) w := by kernel_rfl
theorem as_methodKind (h : Value) (w : World) : (Go.method 364 224 (.agg #[h]) "Kind").run Tryd.prog w = .ok (166, h) w := by kernel_rfl
theorem as_methodElem (h : Value) (w : World) : (Go.method 364 224 (.agg #[h]) "Elem").run Tryd.prog w = .ok (179, .agg #[h]) w := by kernel_rfl
theorem as_methodImplements (h : Value) (w : World) : (Go.method 364 224 (.agg #[h]) "Implements").run Tryd.prog w = .ok (180, .agg #[h]) w := by kernel_rfl
theorem as_methodAssignableTo (h : Value) (w : World) : (Go.method 364 224 (.agg #[h]) "AssignableTo").run Tryd.prog w = .ok (177, .agg #[h]) w := by kernel_rfl
theorem as_kindP (w : World) : ((ReflectliteType.abiMethod fun t => (fun a : Nat => Value.int IntKind.u8 (a : Int)) <$> Rtype.kind t) #[.pointer (some ⟨2, 191, none⟩)]).run Tryd.prog w = .ok (.int .u8 22) w := by kernel_rfl
theorem as_kindE (w : World) : ((ReflectliteType.abiMethod fun t => (fun a : Nat => Value.int IntKind.u8 (a : Int)) <$> Rtype.kind t) #[.pointer (some ⟨2, 23, none⟩)]).run Tryd.prog w = .ok (.int .u8 2) w := by kernel_rfl
theorem rlm (z : Sem Value) (f : TypeId → Addr → Nat → Nat → Sem Value) (v : Value) :
    ReflectliteValue.method z f #[v] = (do match ← ReflectliteValue.parts v with | none => z | some (t, a, fl) => f t a fl (fl % 32)) := rfl
theorem as_partsP (a : Addr) (w : World) : (ReflectliteValue.parts (.agg #[.pointer (some ⟨2, 191, none⟩), .pointer (some a), .int .u64 150])).run Tryd.prog w = .ok (some (191, a, 150)) w := by kernel_rfl
theorem as_isNilP (a p : Addr) (W : World) (ha : W.cell? a = some (.pointer (some p))) :
    (ReflectliteValue.method (ReflectliteValue.valueError "reflectlite.Value.IsNil" 0) ReflectliteValue.isNil #[.agg #[.pointer (some ⟨2, 191, none⟩), .pointer (some a), .int .u64 150]]).run Tryd.prog W = .ok (.bool false) W := by
  rw [rlm]
  simp only [Sem.run_bind, as_partsP, Result.andThen]
  simp [ReflectliteValue.isNil, loadVar, isAgg, underlying, Tryd.underlying191, ha, Result.andThen]
theorem as_elemT (w : World) : (ReflectliteType.method ReflectliteType.elem #[.agg #[.pointer (some ⟨2, 191, none⟩)]]).run Tryd.prog w = .ok (.iface 224 (.agg #[.pointer (some ⟨2, 23, none⟩)])) w := by kernel_rfl
theorem as_implements (w : World) : (ReflectliteType.relation "Implements" ReflectliteType.implements_ #[.agg #[.pointer (some ⟨2, 23, none⟩)], .iface 224 (.agg #[.pointer (some ⟨2, 29, none⟩)])]).run Tryd.prog w = .ok (.bool true) w := by kernel_rfl
theorem as_typeOfE (v : Value) (w : World) : (ReflectliteType.typeOf #[.iface 23 v]).run Tryd.prog w = .ok (.iface 224 (.agg #[.pointer (some ⟨2, 23, none⟩)])) w := by kernel_rfl
theorem as_typeOfA (v : Value) (w : World) : (ReflectliteType.typeOf #[.iface 126 v]).run Tryd.prog w = .ok (.iface 224 (.agg #[.pointer (some ⟨2, 126, none⟩)])) w := by kernel_rfl
theorem as_assignableE (w : World) : (ReflectliteType.relation "AssignableTo" ReflectliteType.assignableTo #[.agg #[.pointer (some ⟨2, 23, none⟩)], .iface 224 (.agg #[.pointer (some ⟨2, 23, none⟩)])]).run Tryd.prog w = .ok (.bool true) w := by kernel_rfl
theorem as_assignableA (w : World) : (ReflectliteType.relation "AssignableTo" ReflectliteType.assignableTo #[.agg #[.pointer (some ⟨2, 126, none⟩)], .iface 224 (.agg #[.pointer (some ⟨2, 23, none⟩)])]).run Tryd.prog w = .ok (.bool false) w := by kernel_rfl
theorem as_valueOfE (e : Int) (w : World) : (ReflectliteValue.unpack (.iface 23 (.int .i64 e))).run Tryd.prog w
    = .ok (.agg #[.pointer (some ⟨2, 23, none⟩), .pointer (some ⟨w.heap.size, 0, none⟩), .int .u64 130]) (w.alloc (.cells #[.int .i64 e] 23)) := by kernel_rfl
theorem as_elemOfP (w : World) : (Rtype.elem? 191).run Tryd.prog w = .ok (some 23) w := by kernel_rfl
theorem as_mkE (p : Addr) (w : World) : (ReflectliteValue.mk 23 p ReflectliteValue.flagAddr).run Tryd.prog w = .ok (.agg #[.pointer (some ⟨2, 23, none⟩), .pointer (some p), .int .u64 386]) w := by kernel_rfl
theorem as_elemV (a p : Addr) (W : World) (ha : W.cell? a = some (.pointer (some p))) :
    (ReflectliteValue.method (ReflectliteValue.valueError "reflectlite.Value.Elem" 0) ReflectliteValue.elem #[.agg #[.pointer (some ⟨2, 191, none⟩), .pointer (some a), .int .u64 150]]).run Tryd.prog W
      = .ok (.agg #[.pointer (some ⟨2, 23, none⟩), .pointer (some p), .int .u64 386]) W := by
  rw [rlm]
  simp only [Sem.run_bind, as_partsP, Result.andThen]
  simp [ReflectliteValue.elem, loadVar, isAgg, underlying, Tryd.underlying191, ha, Result.andThen, as_elemOfP, as_mkE]
theorem rls (v x : Value) : ReflectliteValue.set #[v, x] = (do
    let (some (dst, a, fl), some (src, b, _)) := (← ReflectliteValue.parts v, ← ReflectliteValue.parts x)
      | unsupported (.noEntry "extern/(internal/reflectlite.Value).Set.zeroValue")
    if fl / ReflectliteValue.flagAddr % 2 == 0 then unsupported (.noEntry "extern/(internal/reflectlite.Value).Set.unaddressable")
    let val ← loadVar src b
    if ← Rtype.directlyAssignable dst src then storeVar dst a val
    else if ← Rtype.implements dst src then
      if (← Rtype.kind src) == 20 then
        match val with
        | .nilIface => unsupported (.noEntry "extern/reflectlite: a nil value of one interface type handed on as a value of another")
        | _ => storeVar dst a val
      else storeVar dst a (.iface src val)
    else panicString ("reflectlite.Set: value of type " ++ (← Rtype.spelt src) ++ " is not assignable to type " ++ (← Rtype.spelt dst))
    pure (.tuple #[])) := rfl
theorem as_partsEa (a : Addr) (w : World) : (ReflectliteValue.parts (.agg #[.pointer (some ⟨2, 23, none⟩), .pointer (some a), .int .u64 386])).run Tryd.prog w = .ok (some (23, a, 386)) w := by kernel_rfl
theorem as_partsE (a : Addr) (w : World) : (ReflectliteValue.parts (.agg #[.pointer (some ⟨2, 23, none⟩), .pointer (some a), .int .u64 130])).run Tryd.prog w = .ok (some (23, a, 130)) w := by kernel_rfl
theorem as_direct (w : World) : (Rtype.directlyAssignable 23 23).run Tryd.prog w = .ok true w := by kernel_rfl
theorem as_set (ta b : Addr) (e : Int) (old : Value) (W : World) (hb : W.cell? b = some (.int .i64 e)) (ht : W.cell? ta = some old) (hf : W.frozen? ta = false) :
    (ReflectliteValue.set #[.agg #[.pointer (some ⟨2, 23, none⟩), .pointer (some ta), .int .u64 386], .agg #[.pointer (some ⟨2, 23, none⟩), .pointer (some b), .int .u64 130]]).run Tryd.prog W
      = .ok (.tuple #[]) (W.setCell ta (.int .i64 e)) := by
  rw [rls]
  simp only [Sem.run_bind, as_partsEa, as_partsE, Result.andThen]
  simp [ReflectliteValue.flagAddr, loadVar, isAgg, underlying, Tryd.underlying23, hb, Result.andThen, as_direct, storeVar, Value.cells, storeCells, Addr.add]
  rw [run_store Tryd.prog W ta _ _ (by rfl)]
  simp [ht, hf]
end Go.Proofs.YtgokmldngnmmhaaDoor
/- errors.As at the target *api.Errno: the walks. An Errno is found at once; in an *api.At it is found behind one Unwrap. -/
namespace Go.Proofs.YtgokmldngnmmhaaDoor
open Go.RowKit Go.Extern.Stop Go.Stop Go.Extern
set_option maxRecDepth 100000
/-- The variable errors.errorType holds the handle of the type error. -/
def Hdl (w : World) : Prop := w.cell? ⟨0, 0, none⟩ = some (.iface 224 (.agg #[.pointer (some ⟨2, 29, none⟩)]))
theorem Hdl.lt {w : World} (h : Hdl w) : 0 < w.heap.size := World.block_lt_of_cell? w ⟨0, 0, none⟩ h
theorem Hdl.below {w w' : World} (h : Hdl w) (hb : Below w.heap.size w w') : Hdl w' := (hb.cell (p := ⟨0, 0, none⟩) h.lt).trans h
/-- errors.As's own new blocks, and the target set. -/
def asW (w : World) (t : Addr) (e : Int) : World :=
  ((((w.alloc (.cells #[.pointer (some t)] 191)).alloc (.cells #[.pointer (some ⟨2, 191, none⟩), .pointer (some ⟨w.heap.size, 0, none⟩), .int .u64 150] 213)).alloc (.cells #[.pointer (some ⟨2, 191, none⟩), .pointer (some ⟨w.heap.size, 0, none⟩), .int .u64 150] 213)).alloc (.cells #[.int .i64 e] 23)).setCell t (.int .i64 e)
set_option maxHeartbeats 4000000 in
theorem as_hit (e : Int) (t : Addr) (old : Value) (w : World) (hg : Hdl w) (ht0 : w.cell? t = some old) (hf0 : w.frozen? t = false) :
    Calls Tryd.prog 112 #[.iface 23 (.int .i64 e), .iface 191 (.pointer (some t))] w fun ev w' => ev = .returned (.bool true) ∧ w' = asW w t e := by
  unfold asW
  have h6 := @run_callFunc_extern Tryd.prog 135 _ (fun args => ReflectliteValue.unpack (args.getD 0 (.tuple #[]))) Tryd.func135 (by kernel_rfl) (by kernel_rfl) (by kernel_rfl) (by kernel_rfl)
  have h7 := @run_callFunc_extern Tryd.prog 136 _ (ReflectliteValue.methodAny (ReflectliteValue.valueError "reflectlite.Value.Type" 0) (fun t _ _ _ => ReflectliteType.toType t)) Tryd.func136 (by kernel_rfl) (by kernel_rfl) (by kernel_rfl) (by kernel_rfl)
  have h8 := @run_callFunc_extern Tryd.prog 137 _ (ReflectliteValue.method (ReflectliteValue.valueError "reflectlite.Value.IsNil" 0) ReflectliteValue.isNil) Tryd.func137 (by kernel_rfl) (by kernel_rfl) (by kernel_rfl) (by kernel_rfl)
  have h27 := @run_callFunc_extern Tryd.prog 166 _ (ReflectliteType.abiMethod fun t => do pure (.int .u8 (← Rtype.kind t))) Tryd.func166 (by kernel_rfl) (by kernel_rfl) (by kernel_rfl) (by kernel_rfl)
  have h37 := @run_callFunc_extern Tryd.prog 179 _ (ReflectliteType.method ReflectliteType.elem) Tryd.func179 (by kernel_rfl) (by kernel_rfl) (by kernel_rfl) (by kernel_rfl)
  have h38 := @run_callFunc_extern Tryd.prog 180 _ (ReflectliteType.relation "Implements" ReflectliteType.implements_) Tryd.func180 (by kernel_rfl) (by kernel_rfl) (by kernel_rfl) (by kernel_rfl)
  have h10 := @run_callFunc_extern Tryd.prog 145 _ ReflectliteType.typeOf Tryd.func145 (by kernel_rfl) (by kernel_rfl) (by kernel_rfl) (by kernel_rfl)
  have h35 := @run_callFunc_extern Tryd.prog 177 _ (ReflectliteType.relation "AssignableTo" ReflectliteType.assignableTo) Tryd.func177 (by kernel_rfl) (by kernel_rfl) (by kernel_rfl) (by kernel_rfl)
  have h11 := @run_callFunc_extern Tryd.prog 146 _ (ReflectliteValue.method (ReflectliteValue.valueError "reflectlite.Value.Elem" 0) ReflectliteValue.elem) Tryd.func146 (by kernel_rfl) (by kernel_rfl) (by kernel_rfl) (by kernel_rfl)
  have h12 := @run_callFunc_extern Tryd.prog 147 _ ReflectliteValue.set Tryd.func147 (by kernel_rfl) (by kernel_rfl) (by kernel_rfl) (by kernel_rfl)
  have tO := as_typeOfE
  have mA := as_methodAssignableTo
  have a25 := as_assignableE
  have v25 := as_valueOfE
  have f6 := as_valueOfP
  have f7 := as_typeP
  have mK := as_methodKind
  have mE := as_methodElem
  have mI := as_methodImplements
  have k27 := as_kindP
  have k25 := as_kindE
  have e27 := as_elemT
  have i25 := as_implements
  have n8 := as_isNilP ⟨w.heap.size, 0, none⟩ t ((w.alloc (.cells #[.pointer (some t)] 191)).alloc (.cells #[.pointer (some ⟨2, 191, none⟩), .pointer (some ⟨w.heap.size, 0, none⟩), .int .u64 150] 213)) (by simp)
  have hlt := hg.lt
  have hg2 : ((w.alloc (.cells #[.pointer (some t)] 191)).alloc (.cells #[.pointer (some ⟨2, 191, none⟩), .pointer (some ⟨w.heap.size, 0, none⟩), .int .u64 150] 213)).cell? ⟨0, 0, none⟩ = some (.iface 224 (.agg #[.pointer (some ⟨2, 29, none⟩)])) := by
    rw [World.cell?_alloc_lt _ _ ⟨0, 0, none⟩ (by simp <;> omega), World.cell?_alloc_lt _ _ ⟨0, 0, none⟩ hlt]; exact hg
  have htl : t.block < w.heap.size := World.block_lt_of_cell? w t ht0
  have el := as_elemV ⟨w.heap.size, 0, none⟩ t (((w.alloc (.cells #[.pointer (some t)] 191)).alloc (.cells #[.pointer (some ⟨2, 191, none⟩), .pointer (some ⟨w.heap.size, 0, none⟩), .int .u64 150] 213)).alloc (.cells #[.pointer (some ⟨2, 191, none⟩), .pointer (some ⟨w.heap.size, 0, none⟩), .int .u64 150] 213)) (by rw [World.cell?_alloc_lt _ _ ⟨w.heap.size, 0, none⟩ (by simp; omega)]; simp)
  have st := as_set t ⟨w.heap.size + 1 + 1 + 1, 0, none⟩ e old ((((w.alloc (.cells #[.pointer (some t)] 191)).alloc (.cells #[.pointer (some ⟨2, 191, none⟩), .pointer (some ⟨w.heap.size, 0, none⟩), .int .u64 150] 213)).alloc (.cells #[.pointer (some ⟨2, 191, none⟩), .pointer (some ⟨w.heap.size, 0, none⟩), .int .u64 150] 213)).alloc (.cells #[.int .i64 e] 23))
    (by rw [World.cell?_alloc_at _ _ _ _ (by simp)]; rfl)
    (by rw [World.cell?_alloc_lt _ _ t (by simp; omega), World.cell?_alloc_lt _ _ t (by simp; omega), World.cell?_alloc_lt _ _ t (by simp; omega), World.cell?_alloc_lt _ _ t htl]; exact ht0)
    (by rw [World.frozen?_alloc_old _ _ t (by simp; omega), World.frozen?_alloc_old _ _ t (by simp; omega), World.frozen?_alloc_old _ _ t (by simp; omega), World.frozen?_alloc_old _ _ t (Nat.ne_of_lt htl)]; exact hf0)
  clear hg
  go_enter Tryd.func112, Tryd.ntmps112
  go_wp2
  refine wp_loop_rounds 1 ?_
  rw [rounds_succ]
  go_wp2
  go_ret
  exact ⟨rfl, rfl⟩
theorem at_asAs (g : Nat) (w : World) : (Instr.typeAssert (.iface 126 (.pointer (some ⟨g, 0, none⟩))) 29 229 true).run Tryd.prog w = .ok (.tuple #[.nilIface, .bool false]) w :=
  run_typeAssert_lacksB Tryd.underlying229 (by kernel_rfl) (by kernel_rfl) _ _ w
theorem at_asUnwrap (g : Nat) (w : World) : (Instr.typeAssert (.iface 126 (.pointer (some ⟨g, 0, none⟩))) 29 198 true).run Tryd.prog w = .ok (.tuple #[.iface 126 (.pointer (some ⟨g, 0, none⟩)), .bool true]) w := by kernel_rfl
theorem at_methodUnwrap (h : Value) (w : World) : (Go.method 364 126 h "Unwrap").run Tryd.prog w = .ok (171, h) w := by kernel_rfl
set_option maxHeartbeats 4000000 in
theorem as_at (g : Nat) (e p : Int) (t : Addr) (old : Value) (w : World) (hg : Hdl w) (hat : AtBlk w g e p) (ht0 : w.cell? t = some old) (hf0 : w.frozen? t = false) :
    Calls Tryd.prog 112 #[.iface 126 (.pointer (some ⟨g, 0, none⟩)), .iface 191 (.pointer (some t))] w fun ev w' => ev = .returned (.bool true) ∧ w' = asW w t e := by
  unfold asW
  have h6 := @run_callFunc_extern Tryd.prog 135 _ (fun args => ReflectliteValue.unpack (args.getD 0 (.tuple #[]))) Tryd.func135 (by kernel_rfl) (by kernel_rfl) (by kernel_rfl) (by kernel_rfl)
  have h7 := @run_callFunc_extern Tryd.prog 136 _ (ReflectliteValue.methodAny (ReflectliteValue.valueError "reflectlite.Value.Type" 0) (fun t _ _ _ => ReflectliteType.toType t)) Tryd.func136 (by kernel_rfl) (by kernel_rfl) (by kernel_rfl) (by kernel_rfl)
  have h8 := @run_callFunc_extern Tryd.prog 137 _ (ReflectliteValue.method (ReflectliteValue.valueError "reflectlite.Value.IsNil" 0) ReflectliteValue.isNil) Tryd.func137 (by kernel_rfl) (by kernel_rfl) (by kernel_rfl) (by kernel_rfl)
  have h27 := @run_callFunc_extern Tryd.prog 166 _ (ReflectliteType.abiMethod fun t => do pure (.int .u8 (← Rtype.kind t))) Tryd.func166 (by kernel_rfl) (by kernel_rfl) (by kernel_rfl) (by kernel_rfl)
  have h37 := @run_callFunc_extern Tryd.prog 179 _ (ReflectliteType.method ReflectliteType.elem) Tryd.func179 (by kernel_rfl) (by kernel_rfl) (by kernel_rfl) (by kernel_rfl)
  have h38 := @run_callFunc_extern Tryd.prog 180 _ (ReflectliteType.relation "Implements" ReflectliteType.implements_) Tryd.func180 (by kernel_rfl) (by kernel_rfl) (by kernel_rfl) (by kernel_rfl)
  have h10 := @run_callFunc_extern Tryd.prog 145 _ ReflectliteType.typeOf Tryd.func145 (by kernel_rfl) (by kernel_rfl) (by kernel_rfl) (by kernel_rfl)
  have h35 := @run_callFunc_extern Tryd.prog 177 _ (ReflectliteType.relation "AssignableTo" ReflectliteType.assignableTo) Tryd.func177 (by kernel_rfl) (by kernel_rfl) (by kernel_rfl) (by kernel_rfl)
  have h11 := @run_callFunc_extern Tryd.prog 146 _ (ReflectliteValue.method (ReflectliteValue.valueError "reflectlite.Value.Elem" 0) ReflectliteValue.elem) Tryd.func146 (by kernel_rfl) (by kernel_rfl) (by kernel_rfl) (by kernel_rfl)
  have h12 := @run_callFunc_extern Tryd.prog 147 _ ReflectliteValue.set Tryd.func147 (by kernel_rfl) (by kernel_rfl) (by kernel_rfl) (by kernel_rfl)
  have tO := as_typeOfE
  have mA := as_methodAssignableTo
  have a25 := as_assignableE
  have v25 := as_valueOfE
  have f6 := as_valueOfP
  have f7 := as_typeP
  have mK := as_methodKind
  have mE := as_methodElem
  have mI := as_methodImplements
  have k27 := as_kindP
  have k25 := as_kindE
  have e27 := as_elemT
  have i25 := as_implements
  have n8 := as_isNilP ⟨w.heap.size, 0, none⟩ t ((w.alloc (.cells #[.pointer (some t)] 191)).alloc (.cells #[.pointer (some ⟨2, 191, none⟩), .pointer (some ⟨w.heap.size, 0, none⟩), .int .u64 150] 213)) (by simp)
  have hlt := hg.lt
  have hg2 : ((w.alloc (.cells #[.pointer (some t)] 191)).alloc (.cells #[.pointer (some ⟨2, 191, none⟩), .pointer (some ⟨w.heap.size, 0, none⟩), .int .u64 150] 213)).cell? ⟨0, 0, none⟩ = some (.iface 224 (.agg #[.pointer (some ⟨2, 29, none⟩)])) := by
    rw [World.cell?_alloc_lt _ _ ⟨0, 0, none⟩ (by simp <;> omega), World.cell?_alloc_lt _ _ ⟨0, 0, none⟩ hlt]; exact hg
  have htl : t.block < w.heap.size := World.block_lt_of_cell? w t ht0
  have el := as_elemV ⟨w.heap.size, 0, none⟩ t (((w.alloc (.cells #[.pointer (some t)] 191)).alloc (.cells #[.pointer (some ⟨2, 191, none⟩), .pointer (some ⟨w.heap.size, 0, none⟩), .int .u64 150] 213)).alloc (.cells #[.pointer (some ⟨2, 191, none⟩), .pointer (some ⟨w.heap.size, 0, none⟩), .int .u64 150] 213)) (by rw [World.cell?_alloc_lt _ _ ⟨w.heap.size, 0, none⟩ (by simp; omega)]; simp)
  have st := as_set t ⟨w.heap.size + 1 + 1 + 1, 0, none⟩ e old ((((w.alloc (.cells #[.pointer (some t)] 191)).alloc (.cells #[.pointer (some ⟨2, 191, none⟩), .pointer (some ⟨w.heap.size, 0, none⟩), .int .u64 150] 213)).alloc (.cells #[.pointer (some ⟨2, 191, none⟩), .pointer (some ⟨w.heap.size, 0, none⟩), .int .u64 150] 213)).alloc (.cells #[.int .i64 e] 23))
    (by rw [World.cell?_alloc_at _ _ _ _ (by simp)]; rfl)
    (by rw [World.cell?_alloc_lt _ _ t (by simp; omega), World.cell?_alloc_lt _ _ t (by simp; omega), World.cell?_alloc_lt _ _ t (by simp; omega), World.cell?_alloc_lt _ _ t htl]; exact ht0)
    (by rw [World.frozen?_alloc_old _ _ t (by simp; omega), World.frozen?_alloc_old _ _ t (by simp; omega), World.frozen?_alloc_old _ _ t (by simp; omega), World.frozen?_alloc_old _ _ t (Nat.ne_of_lt htl)]; exact hf0)
  have hgl : g < w.heap.size := (Array.getElem?_eq_some_iff.1 hat).1
  have hgc : (((w.alloc (.cells #[.pointer (some t)] 191)).alloc (.cells #[.pointer (some ⟨2, 191, none⟩), .pointer (some ⟨w.heap.size, 0, none⟩), .int .u64 150] 213)).alloc (.cells #[.pointer (some ⟨2, 191, none⟩), .pointer (some ⟨w.heap.size, 0, none⟩), .int .u64 150] 213)).cell? ⟨g, 0, none⟩ = some (.int .i64 e) := by
    rw [World.cell?_alloc_lt _ _ ⟨g, 0, none⟩ (by simp; omega), World.cell?_alloc_lt _ _ ⟨g, 0, none⟩ (by simp; omega), World.cell?_alloc_lt _ _ ⟨g, 0, none⟩ hgl]
    unfold AtBlk at hat
    simp [World.cell?, hat]
  have tA := as_typeOfA
  have aA := as_assignableA
  have as1 := at_asAs g
  have as2 := at_asUnwrap g
  have mU := at_methodUnwrap
  clear hg hat
  go_enter Tryd.func112, Tryd.ntmps112
  go_wp2
  refine wp_loop_rounds 2 ?_
  rw [rounds_succ]
  go_wp2
  rw [rounds_succ]
  go_wp2
  go_ret
  exact ⟨rfl, rfl⟩
end Go.Proofs.YtgokmldngnmmhaaDoor
/- Errors taken apart: api.Tell, plain.Place, and the laws' own is and bare. -/
namespace Go.Proofs.YtgokmldngnmmhaaDoor
open Go.RowKit
set_option maxRecDepth 100000
theorem asW_cell {w : World} {t : Addr} {e : Int} {old : Value} (h : w.cell? t = some old) : (asW w t e).cell? t = some (.int .i64 e) := by
  unfold asW
  have hl := World.block_lt_of_cell? w t h
  refine World.cell?_setCell_same _ _ _ (u := old) ?_
  rw [World.cell?_alloc_lt _ _ t (by simp; omega), World.cell?_alloc_lt _ _ t (by simp; omega), World.cell?_alloc_lt _ _ t (by simp; omega), World.cell?_alloc_lt _ _ t hl]
  exact h
theorem asW_below {w0 w : World} {t : Addr} {e : Int} (h : Below w0.heap.size w0 w) (ht : w0.heap.size ≤ t.block) : Below w0.heap.size w0 (asW w t e) := by
  unfold asW
  exact (ex_alloc (ex_alloc (ex_alloc (ex_alloc h _) _) _) _).setCell ht _
set_option maxHeartbeats 1000000 in
theorem tell_nil (w : World) : Calls Tryd.prog 62 #[.nilIface] w fun ev w' => ev = .returned (.int .i64 0) ∧ Below w.heap.size w w' := by
  go_enter Tryd.func62, Tryd.ntmps62
  go_wp2_with fail
  go_ret
  exact ⟨rfl, Below.refl _ _⟩
set_option maxHeartbeats 1000000 in
theorem tell_no (e : Int) (w : World) (hg : Hdl w) : Calls Tryd.prog 62 #[.iface 23 (.int .i64 e)] w fun ev w' => ev = .returned (.int .i64 e) ∧ Below w.heap.size w w' := by
  have HG := Hd.mk hg
  clear hg
  go_enter Tryd.func62, Tryd.ntmps62
  go_wp2_with fail
  have hn : (w.alloc (.cells #[.int .i64 0] 23)).cell? ⟨w.heap.size, 0, none⟩ = some (.int .i64 0) := by simp
  have hc := asW_cell (e := e) hn
  have hbl : Below w.heap.size w (asW (w.alloc (.cells #[.int .i64 0] 23)) ⟨w.heap.size, 0, none⟩ e) := asW_below (ex_alloc (Below.refl _ _) _) (Nat.le_refl _)
  refine (as_hit e ⟨w.heap.size, 0, none⟩ (.int .i64 0) _ (HG.out.below (ex_alloc (Below.refl _ _) _)) hn (by simp)).mono ?_
  rintro ev w' ⟨rfl, rfl⟩
  generalize asW (w.alloc (.cells #[.int .i64 0] 23)) ⟨w.heap.size, 0, none⟩ e = w1 at hc hbl ⊢
  clear hn
  go_wp2_with fail
  go_ret
  exact ⟨rfl, hbl⟩
set_option maxHeartbeats 1000000 in
theorem tell_at (g : Nat) (e p : Int) (w : World) (hg : Hdl w) (hat : AtBlk w g e p) : Calls Tryd.prog 62 #[atV g] w fun ev w' => ev = .returned (.int .i64 e) ∧ Below w.heap.size w w' := by
  have HG := Hd.mk hg
  have HA := Hd.mk hat
  clear hg hat
  go_enter Tryd.func62, Tryd.ntmps62
  go_wp2_with fail
  have hn : (w.alloc (.cells #[.int .i64 0] 23)).cell? ⟨w.heap.size, 0, none⟩ = some (.int .i64 0) := by simp
  have hc := asW_cell (e := e) hn
  have hbl : Below w.heap.size w (asW (w.alloc (.cells #[.int .i64 0] 23)) ⟨w.heap.size, 0, none⟩ e) := asW_below (ex_alloc (Below.refl _ _) _) (Nat.le_refl _)
  refine (as_at g e p ⟨w.heap.size, 0, none⟩ (.int .i64 0) _ (HG.out.below (ex_alloc (Below.refl _ _) _)) (HA.out.below (ex_alloc (Below.refl _ _) _)) hn (by simp)).mono ?_
  rintro ev w' ⟨rfl, rfl⟩
  generalize asW (w.alloc (.cells #[.int .i64 0] 23)) ⟨w.heap.size, 0, none⟩ e = w1 at hc hbl ⊢
  clear hn
  go_wp2_with fail
  go_ret
  exact ⟨rfl, hbl⟩
/-- An error that the program makes: none, an Errno, an *api.At; its Errno and its place (-1: none). -/
inductive ErrV (w : World) : Value → Int → Int → Prop
  | nil : ErrV w .nilIface 0 (-1)
  | no (e : Int) : ErrV w (.iface 23 (.int .i64 e)) e (-1)
  | at_ (g : Nat) (e p : Int) (h : AtBlk w g e p) : ErrV w (atV g) e p
theorem ErrV.below {w w' : World} {v : Value} {e p : Int} (h : ErrV w v e p) (hb : Below w.heap.size w w') : ErrV w' v e p := by
  cases h with
  | nil => exact .nil
  | no => exact .no _
  | at_ g _ _ h => exact .at_ g _ _ (h.below hb)
theorem tell_calls {v : Value} {e p : Int} {w : World} (h : ErrV w v e p) (hg : Hdl w) : Calls Tryd.prog 62 #[v] w fun ev w' => ev = .returned (.int .i64 e) ∧ Below w.heap.size w w' := by
  cases h with
  | nil => exact tell_nil w
  | no e => exact tell_no e w hg
  | at_ g e p h => exact tell_at g e p w hg h
set_option maxHeartbeats 1000000 in
theorem ta_noAt (e : Int) (w : World) : (Instr.typeAssert (.iface 23 (.int .i64 e)) 29 126 true).run Tryd.prog w = .ok (.tuple #[.pointer none, .bool false]) w := by kernel_rfl
theorem ta_atAt (g : Nat) (w : World) : (Instr.typeAssert (.iface 126 (.pointer (some ⟨g, 0, none⟩))) 29 126 true).run Tryd.prog w = .ok (.tuple #[.pointer (some ⟨g, 0, none⟩), .bool true]) w := by kernel_rfl
theorem ta_noUn (e : Int) (w : World) : (Instr.typeAssert (.iface 23 (.int .i64 e)) 29 198 true).run Tryd.prog w = .ok (.tuple #[.nilIface, .bool false]) w :=
  run_typeAssert_lacksB Tryd.underlying198 (by kernel_rfl) (by kernel_rfl) _ _ w
theorem place_x (e : Int) (w : World) (hg : Hdl w) : Calls Tryd.prog 74 #[.iface 23 (.int .i64 e)] w fun ev w' => ev = .returned (.tuple #[.int .i64 e, .int .i64 (-1)]) ∧ Below w.heap.size w w' := by
  have HG := Hd.mk hg
  have t1 := ta_noAt e
  have t2 := ta_noUn e
  clear hg
  go_enter Tryd.func74, Tryd.ntmps74
  go_wp2_with fail
  refine (tell_no e _ HG.out).mono ?_
  rintro ev w1 ⟨rfl, hb⟩
  go_wp2_with fail
  refine wp_loop_rounds 1 ?_
  rw [rounds_succ]
  go_wp2_with fail
  go_ret2
  exact ⟨rfl, hb⟩
set_option maxHeartbeats 1000000 in
theorem place_nil (w : World) : Calls Tryd.prog 74 #[.nilIface] w fun ev w' => ev = .returned (.tuple #[.int .i64 0, .int .i64 (-1)]) ∧ Below w.heap.size w w' := by
  go_enter Tryd.func74, Tryd.ntmps74
  go_wp2_with fail
  refine (tell_nil _).mono ?_
  rintro ev w1 ⟨rfl, hb⟩
  go_wp2_with fail
  refine wp_loop_rounds 1 ?_
  rw [rounds_succ]
  go_wp2_with fail
  go_ret2
  exact ⟨rfl, hb⟩
set_option maxHeartbeats 1000000 in
theorem place_at (g : Nat) (e p : Int) (w : World) (hg : Hdl w) (hat : AtBlk w g e p) : Calls Tryd.prog 74 #[atV g] w fun ev w' => ev = .returned (.tuple #[.int .i64 e, .int .i64 p]) ∧ Below w.heap.size w w' := by
  have HG := Hd.mk hg
  have HA := Hd.mk hat
  have t1 := ta_atAt g
  clear hg hat
  go_enter Tryd.func74, Tryd.ntmps74
  go_wp2_with fail
  refine (tell_at g e p _ HG.out HA.out).mono ?_
  rintro ev w1 ⟨rfl, hb⟩
  have hA := HA.out.below hb
  have hc : w1.cell? ⟨g, 1, none⟩ = some (.int .i64 p) := by
    unfold AtBlk at hA
    simp [World.cell?, hA]
  clear hA
  go_wp2_with fail
  refine wp_loop_rounds 1 ?_
  rw [rounds_succ]
  go_wp2_with fail
  go_quiet (fail)
  go_wp2_with fail
  go_ret2
  exact ⟨rfl, ex_drewN _ hb⟩
theorem place_calls {v : Value} {e p : Int} {w : World} (h : ErrV w v e p) (hg : Hdl w) : Calls Tryd.prog 74 #[v] w fun ev w' => ev = .returned (.tuple #[.int .i64 e, .int .i64 p]) ∧ Below w.heap.size w w' := by
  cases h with
  | nil => exact place_nil w
  | no e => exact place_x e w hg
  | at_ g e p h => exact place_at g e p w hg h
theorem beqi (a b : Int) : (a == b) = decide (a = b) := by by_cases h : a = b <;> simp [h]
set_option maxHeartbeats 1000000 in
theorem is_x {v : Value} {e p : Int} {w : World} (f q : Int) (h : ErrV w v e p) (hg : Hdl w) : Calls Tryd.prog 19 #[v, .agg #[.int .i64 f, .int .i64 q]] w fun ev w' => ev = .returned (.bool (e == f && p == q)) ∧ Below w.heap.size w w' := by
  have HH := Hd.mk h
  have HG := Hd.mk hg
  clear h hg
  go_enter Tryd.func19, Tryd.ntmps19
  go_wp2_with fail
  have hx : Below w.heap.size w (w.alloc (.cells #[.int .i64 f, .int .i64 q] 25)) := ex_alloc (Below.refl _ _) _
  refine (place_calls (HH.out.below hx) (HG.out.below hx)).mono ?_
  rintro ev w1 ⟨rfl, hb⟩
  have hb2 := bstep hx hb
  obtain ⟨hc, hf⟩ := bcell hb
  simp only [World.size_alloc] at hc hf
  have f0 : w1.cell? ⟨w.heap.size, 0, none⟩ = some (.int .i64 f) := by rw [hc _ _ (by omega)]; simp
  have f1 : w1.cell? ⟨w.heap.size, 1, none⟩ = some (.int .i64 q) := by rw [hc _ _ (by omega)]; simp
  have HB := Hd.mk hb2
  clear hb hb2 hc hf hx
  cases h1 : (e == f)
  · go_wp2_with fail
    go_ret
    exact ⟨by rw [h1]; rfl, HB.out⟩
  · go_wp2_with fail
    go_ret
    exact ⟨by rw [h1]; rfl, HB.out⟩
theorem is_true {v : Value} {e p : Int} {w : World} (h : ErrV w v e p) (hg : Hdl w) : Calls Tryd.prog 19 #[v, .agg #[.int .i64 e, .int .i64 p]] w fun ev w' => ev = .returned (.bool true) ∧ Below w.heap.size w w' := by
  refine (is_x e p h hg).mono ?_
  rintro ev w' ⟨rfl, hb⟩
  exact ⟨by simp, hb⟩
theorem bareR_calls (e : Int) (w : World) : Calls Tryd.prog 70 #[.int .i64 e] w fun ev w' => ev = .returned (.agg #[.int .i64 e, .int .i64 (-1)]) ∧ Below w.heap.size w w' := by
  go_enter Tryd.func70, Tryd.ntmps70
  go_wp2_with fail
  refine bodyPost_ret (v := .agg #[.int .i64 e, .int .i64 (-1)]) (by simp [results, Tryd.results70, go_sem]) rfl ?_
  exact ⟨rfl, (by repeat (first | exact Below.refl _ _ | exact ex_drew (by assumption) | apply ex_drew | apply ex_drewN | apply ex_alloc | assumption))⟩
set_option maxHeartbeats 1000000 in
theorem bare_true {v : Value} {e : Int} {w : World} (h : ErrV w v e (-1)) (hg : Hdl w) : Calls Tryd.prog 30 #[v, .int .i64 e] w fun ev w' => ev = .returned (.bool true) ∧ Below w.heap.size w w' := by
  have HH := Hd.mk h
  have HG := Hd.mk hg
  clear h hg
  go_enter Tryd.func30, Tryd.ntmps30
  go_wp2_with fail
  refine (bareR_calls e _).mono ?_
  rintro ev w1 ⟨rfl, hb1⟩
  go_wp2_with fail
  refine (is_true (HH.out.below hb1) (HG.out.below hb1)).mono ?_
  rintro ev w2 ⟨rfl, hb2⟩
  go_wp2_with fail
  go_ret
  exact ⟨rfl, bstep hb1 hb2⟩
end Go.Proofs.YtgokmldngnmmhaaDoor
/- Walks of the reference's Text and FromHalves. -/
namespace Go.Proofs.YtgokmldngnmmhaaDoor
open Go.RowKit
set_option maxRecDepth 100000
def fltV (e p : Int) : Value := .agg #[.int .i64 e, .int .i64 p]
def RTextPost (pre rest : List Int) (w : World) (e : Ending) (w' : World) : Prop :=
  Below w.heap.size w w' ∧ (rest = [] → e = .returned (.tuple #[.string ⟨(U.encs pre).toArray⟩, .agg #[.int .i64 0, .int .i64 (-1)]])) ∧
    (rest ≠ [] → e = .returned (.tuple #[.string ⟨#[]⟩, .agg #[.int .i64 3, .int .i64 pre.length]]))
section
attribute [local go_sem] str_append
end
def RFromPost (pre rest : List Int) (w : World) (e : Ending) (w' : World) : Prop :=
  Below w.heap.size w w' ∧ (rest = [] → e = .returned (.tuple #[.string ⟨(U.encs pre).toArray⟩, .agg #[.int .i64 0, .int .i64 (-1)]])) ∧
    (rest ≠ [] → e = .returned (.tuple #[.string ⟨#[]⟩, .agg #[.int .i64 3, .int .i64 (U.hoff pre pre.length)]]))
theorem le_hoff {rs : List Int} {k : Nat} (hk : k ≤ rs.length) : k ≤ U.hoff rs k := by
  induction k with
  | zero => omega
  | succ k ih =>
    rw [U.hoff_succ hk]
    have := U.hwid_pos rs[k]
    have := ih (by omega)
    omega
end Go.Proofs.YtgokmldngnmmhaaDoor
