/- The walk of the law OpsCheck. -/
import Derived.Test.YtkiigheleoncfaaDoorRefG
import Derived.Test.YtkiigheleoncfaaDoorPartD
import Derived.Test.YtkiigheleoncfaaDoorPartF
import Derived.Test.YtkiigheleoncfaaDoorPartS
namespace Go.Proofs.YtkiigheleoncfaaDoor
open Go.RowKit
set_option maxRecDepth 100000
attribute [local go_sem ↓] Go.wp_at_zero Go.wp_at_succ
theorem chk_good {l : List PT} {m : Int} (h : chk l m = 0) : ∀ p ∈ l, p.Good := by
  unfold chk at h
  split at h
  · rename_i h1
    clear h
    induction l with
    | nil => intro p hp; simp at hp
    | cons p l ih =>
      unfold e1 at h1
      split at h1
      · exact absurd h1 (by decide)
      · rename_i ha
        split at h1
        · exact absurd h1 (by decide)
        · rename_i hf
          intro q hq
          rcases List.mem_cons.1 hq with rfl | hq
          · exact ⟨Classical.not_not.1 ha, Classical.not_not.1 hf⟩
          · exact ih h1 q hq
  · rename_i h1; exact absurd h h1
theorem few_bd {l : List PT} (hf : Few l) (ha : ∀ p ∈ l, p.arg) : was l ≤ 10000 * l.length ∧ plen l ≤ 300 * l.length ∧ 0 ≤ was l := by
  refine ⟨?_, ?_, was_nn ha⟩
  · induction l with
    | nil => simp [was]
    | cons p l ih =>
      have h1 := ih (fun q hq => hf q (by simp [hq])) (fun q hq => ha q (by simp [hq]))
      obtain ⟨_, h2, h3⟩ := hf p (by simp)
      rw [was, List.length_cons]
      omega
  · induction l with
    | nil => simp [plen]
    | cons p l ih =>
      have h1 := ih (fun q hq => hf q (by simp [hq])) (fun q hq => ha q (by simp [hq]))
      obtain ⟨h2, _⟩ := hf p (by simp)
      rw [plen, List.length_cons]
      omega
theorem plg_spread (l : List PT) : plg (spread l) = plen l := by
  suffices hs : ∀ S : SS, plg (l.foldl SS.step S) = plg S + plen l by
    have := hs .zero
    simpa [spread, plg, SS.P, SS.zero] using this
  have ht : ∀ (x : Bool) (m : Nat) (S : SS), plg (SS.take x m S) = plg S := by
    intro x m S
    unfold plg
    rw [SS.take_P]; simp
  induction l with
  | nil => intro S; simp [plen]
  | cons p l ih =>
    intro S
    rw [List.foldl_cons, ih, plen]
    unfold SS.step
    rw [ht, ht]
    unfold plg SS.P
    simp; omega
theorem beq_self (a : Int) : (a == a) = true := by simp
set_option maxHeartbeats 4000000 in
theorem opsCheck_walk {l : List PT} {v : Value} {n : Nat} {m : Int} {w : World} (hg : Hdl w) (hsl : Sl w 3 v n (opv l)) (hp : ∀ p ∈ l, p.put.length ≤ 35184372087808) (hm : -9223372036854775808 ≤ m ∧ m ≤ 9223372036854775807) :
    Calls Tryd.prog 4 #[v, .int .i64 m] w fun e w' => e = .returned (.bool true) ∧ Below w.heap.size w w' := by
  have hln : l.length = n := by have := hsl.len; rw [opv_length] at this; omega
  have hle := hsl.le
  unfold maxLen at hle
  have HG := Hd.mk hg
  have HSL := Hd.mk hsl
  have HP := Hd.mk hp
  have HM := Hd.mk hm
  obtain ⟨A, c, rfl, -⟩ := hsl
  clear hp hg hm
  by_cases hn : 100 < n
  · go_enter Tryd.func4, Tryd.ntmps4
    go_wp2_with fail
    go_ret
    exact ⟨rfl, Below.refl _ _⟩
  · go_enter Tryd.func4, Tryd.ntmps4
    go_wp2_with fail
    refine (ocheck_calls HG.out HSL.out HP.out HM.out).mono ?_
    rintro e w1 ⟨⟨ev, rfl, hev⟩, hb1⟩
    have HB1 := Hd.mk hb1
    have HS1 := Hd.mk (HSL.out.below hb1)
    have HG1 := Hd.mk (HG.out.below hb1)
    have HEV := Hd.mk hev
    clear hev hb1
    go_wp2_with fail
    refine (rcheck_calls HS1.out HP.out HM.out).mono ?_
    rintro e w2 ⟨rfl, hb2⟩
    have HB2 := Hd.mk (bstep HB1.out hb2)
    have HS2 := Hd.mk (HS1.out.below hb2)
    have HG2 := Hd.mk (HG1.out.below hb2)
    have HEV2 := Hd.mk (HEV.out.below hb2)
    clear hb2
    go_wp2_with fail
    refine (bare_true HEV2.out HG2.out).mono ?_
    rintro e w3 ⟨rfl, hb3⟩
    have HB3 := Hd.mk (bstep HB2.out hb3)
    have HS3 := Hd.mk (HS2.out.below hb3)
    clear hb3
    go_wp2_with fail
    refine (fine_calls HS3.out (by omega) HP.out).mono ?_
    rintro e w4 ⟨hor, hb4⟩
    have HB4 := Hd.mk (bstep HB3.out hb4)
    have HS4 := Hd.mk (HS3.out.below hb4)
    clear hb4
    rcases hor with ⟨hf, rfl⟩ | ⟨hf, rfl⟩
    · have hga := chk_good hf.2
      have harg : ∀ p ∈ l, p.arg := fun p hp => (hga p hp).1
      obtain ⟨f1, f2, f3⟩ := few_bd hf.1 harg
      have HARG := Hd.mk harg
      obtain ⟨N, hN⟩ := Int.eq_ofNat_of_zero_le f3
      have HN := Hd.mk hN
      have hN2 : N ≤ 1000000 := by omega
      have hpl : plen l ≤ 30000 := by omega
      have hwl : was l ≤ 1000000 := by omega
      have HWL := Hd.mk hwl
      have HNM := Hd.mk (norm_length harg)
      clear hf hga harg f1 f2 f3 hN hwl
      go_wp2_with fail
      refine (olens_calls HS4.out).mono ?_
      rintro e w5 ⟨rfl, hb5⟩
      have HB5 := Hd.mk (bstep HB4.out hb5)
      have HS5 := Hd.mk (HS4.out.below hb5)
      clear hb5
      go_wp2_with fail
      refine (rlens_calls HS5.out).mono ?_
      rintro e w6 ⟨rfl, hb6⟩
      have HB6 := Hd.mk (bstep HB5.out hb6)
      have HS6 := Hd.mk (HS5.out.below hb6)
      clear hb6
      generalize wrap64 (was l) = x1 at *
      generalize wrap64 (comes l) = x2 at *
      have e1 := beq_self x1
      have e2 := beq_self x2
      go_wp2_with fail
      refine (norm_calls HS6.out HARG.out (by have := HWL.out; omega) (by omega) (by omega)).mono ?_
      rintro e w7 ⟨⟨v7, rfl, hs7⟩, hb7⟩
      have HB7 := Hd.mk (bstep HB6.out hb7)
      have HS7 := Hd.mk (HS6.out.below hb7)
      have HV7 := Hd.mk hs7
      clear hb7 hs7
      go_wp2_with fail
      refine (spread_calls HS7.out HARG.out HN.out (by omega) (by omega) (by omega)).mono ?_
      rintro e w8 ⟨⟨vp, vd, rfl, hvp, hvd⟩, hb8⟩
      have HB8 := Hd.mk (bstep HB7.out hb8)
      have HV8 := Hd.mk (HV7.out.below hb8)
      have HVP := Hd.mk hvp
      have HVD := Hd.mk hvd
      clear hb8 hvp hvd
      go_wp2_with fail
      refine (gather_calls HVP.out HVD.out (by omega) (by rw [plg_spread]; omega)).mono ?_
      rintro e w9 ⟨⟨v9, rfl, hv9⟩, hb9⟩
      rw [gather_spread HARG.out] at hv9
      have HB9 := Hd.mk (bstep HB8.out hb9)
      have HV9 := Hd.mk (HV8.out.below hb9)
      have HW9 := Hd.mk hv9
      clear hb9 hv9
      go_wp2_with fail
      refine (same_calls HV9.out HW9.out).mono ?_
      rintro e w10 ⟨rfl, hb10⟩
      have HB10 := Hd.mk (bstep HB9.out hb10)
      clear hb10
      go_wp2_with fail
      go_ret
      exact ⟨rfl, HB10.out⟩
    · go_wp2_with fail
      go_ret
      exact ⟨rfl, HB4.out⟩
end Go.Proofs.YtkiigheleoncfaaDoor
