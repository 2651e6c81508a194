/- The walk of the law OpsCompose. -/
import Derived.Test.YthbhhnfhjppbdaaDoorRefY
import Derived.Test.YthbhhnfhjppbdaaDoorOpW
namespace Go.Proofs.YthbhhnfhjppbdaaDoor
open Go.RowKit
set_option maxRecDepth 100000
attribute [local go_sem ↓] Go.wp_at_zero Go.wp_at_succ
set_option maxHeartbeats 4000000 in
theorem opsCompose_walk {la lb : List PT} {va vb : Value} {na nb : Nat} {w : World} (hg : Hdl w) (ha : Sl w 3 va na (opv la)) (hb : Sl w 3 vb nb (opv lb)) (hpa : ∀ p ∈ la, p.put.length ≤ maxLen) (hpb : ∀ p ∈ lb, p.put.length ≤ maxLen) :
    Calls Tryd.prog 4 #[va, vb] w fun e w' => e = .returned (.bool true) ∧ Below w.heap.size w w' := by
  have HG := Hd.mk hg
  have HA := Hd.mk ha
  have HB := Hd.mk hb
  have HPA := Hd.mk hpa
  have HPB := Hd.mk hpb
  obtain ⟨A1, c1, rfl, -⟩ := ha
  obtain ⟨A2, c2, rfl, -⟩ := hb
  clear hpa hpb hg
  go_enter Tryd.func4, Tryd.ntmps4
  go_wp2_with fail
  by_cases hna : 100 < na
  · refine (few_over HA.out hna).mono ?_
    rintro e w1 ⟨rfl, hb1⟩
    go_wp2_with fail
    go_ret
    exact ⟨rfl, hb1⟩
  · refine (few_calls HA.out (by omega) HPA.out).mono ?_
    rintro e w1 ⟨hor, hb1⟩
    have HB1 := Hd.mk hb1
    clear hb1
    rcases hor with ⟨hfa, rfl⟩ | ⟨hfa, rfl⟩
    · have HFA := Hd.mk hfa
      clear hfa
      go_wp2_with fail
      by_cases hnb : 100 < nb
      · refine (few_over (HB.out.below HB1.out) hnb).mono ?_
        rintro e w2 ⟨rfl, hb2⟩
        go_wp2_with fail
        go_ret
        exact ⟨rfl, bstep HB1.out hb2⟩
      · refine (few_calls (HB.out.below HB1.out) (by omega) HPB.out).mono ?_
        rintro e w2 ⟨hor, hb2⟩
        have HB2 := Hd.mk (bstep HB1.out hb2)
        clear hb2
        rcases hor with ⟨hfb, rfl⟩ | ⟨hfb, rfl⟩
        · have HFB := Hd.mk hfb
          clear hfb
          go_wp2_with fail
          refine (rcomp_calls (HA.out.below HB2.out) (HB.out.below HB2.out) HFA.out HFB.out (by omega) (by omega)).mono ?_
          rintro e w3 ⟨hb3, v3, rfl, hs3, hn3⟩
          have HB3 := Hd.mk (bstep HB2.out hb3)
          have HS3 := Hd.mk hs3
          have HN3 := Hd.mk hn3
          clear hb3 hs3 hn3
          go_wp2_with fail
          refine (ocomp_calls (HG.out.below HB3.out) (HA.out.below HB3.out) (HB.out.below HB3.out) HFA.out HFB.out (by omega) (by omega)).mono ?_
          rintro e w4 ⟨hb4, v4, rfl, hs4, hn4⟩
          have HB4 := Hd.mk (bstep HB3.out hb4)
          have HS4 := Hd.mk hs4
          have HN4 := Hd.mk hn4
          have HS3b : Hd (cmc la lb = 0 → _) := ⟨fun h => (HS3.out h).below hb4⟩
          clear hb4 hs4 hn4
          go_wp2_with fail
          refine (bare_true (errV_of w4 (cmc la lb)) (HG.out.below HB4.out)).mono ?_
          rintro e w5 ⟨rfl, hb5⟩
          have HB5 := Hd.mk (bstep HB4.out hb5)
          have HX : Hd (∃ (l : List PT) (n : Nat), Sl w5 3 v3 n (opv l) ∧ Sl w5 3 v4 n (opv l)) := ⟨by
            by_cases h : cmc la lb = 0
            · exact ⟨_, _, (HS3b.out h).below hb5, (HS4.out h).below hb5⟩
            · rw [HN3.out h, HN4.out h]
              exact ⟨[], 0, Sl.nil _ _, Sl.nil _ _⟩⟩
          obtain ⟨l5, n5, hx3, hx4⟩ := HX.out
          have HX3 := Hd.mk hx3
          have HX4 := Hd.mk hx4
          clear hb5 HX hx3 hx4 HS3b
          go_wp2_with fail
          refine (same_calls HX4.out HX3.out).mono ?_
          rintro e w6 ⟨rfl, hb6⟩
          have HB6 := Hd.mk (bstep HB5.out hb6)
          clear hb6
          go_wp2_with fail
          go_ret
          exact ⟨rfl, HB6.out⟩
        · go_wp2_with fail
          go_ret
          exact ⟨rfl, HB2.out⟩
    · go_wp2_with fail
      go_ret
      exact ⟨rfl, HB1.out⟩
end Go.Proofs.YthbhhnfhjppbdaaDoor
