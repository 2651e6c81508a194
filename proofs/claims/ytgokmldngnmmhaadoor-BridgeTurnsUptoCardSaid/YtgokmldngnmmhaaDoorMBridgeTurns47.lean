/- The walk of the law BridgeTurns. -/
import Derived.Test.YtgokmldngnmmhaaDoorMBridgeTurns45
import Derived.Test.YtgokmldngnmmhaaDoorMBridgeTurns39
import Derived.Test.YtgokmldngnmmhaaDoorMBridgeTurns46
namespace Go.Proofs.YtgokmldngnmmhaaDoor
open Go.RowKit
set_option maxRecDepth 100000
set_option maxHeartbeats 8000000 in
theorem bridgeTurns_walk {l : List PT} {v : Value} {n : Nat} {s : U.Bs} {unit : Int} {w : World} (hg : Hdl w) (hsl : Sl w 3 v n (opv l)) (hp : ∀ p ∈ l, p.put.length ≤ 35184372087808) (hsm : s.length ≤ maxLen) :
    Calls Tryd.prog 8 #[.string ⟨s.toArray⟩, .int .i64 unit, v] w fun e w' => e = .returned (.bool true) ∧ Below w.heap.size w w' := by
  have HG := Hd.mk hg
  have HSL := Hd.mk hsl
  have HP := Hd.mk hp
  obtain ⟨A, cc, rfl, -⟩ := hsl
  unfold maxLen at hsm
  clear hg hp
  by_cases h1 : 400 < s.length
  · have hi : (400 : Int) < (s.length : Int) := by omega
    go_enter Tryd.func8, Tryd.ntmps8
    go_wp2_with fail
    go_ret
    exact ⟨rfl, Below.refl _ _⟩
  by_cases h2 : 60 < n
  · have hi : ¬ ((400 : Int) < (s.length : Int)) := by omega
    have hj : (60 : Int) < (n : Int) := by omega
    go_enter Tryd.func8, Tryd.ntmps8
    go_wp2_with fail
    go_ret
    exact ⟨rfl, Below.refl _ _⟩
  have hi : ¬ ((400 : Int) < (s.length : Int)) := by omega
  have hj : ¬ ((60 : Int) < (n : Int)) := by omega
  have HN : Hd (n ≤ 1000) := ⟨by omega⟩
  obtain ⟨rs, rest, hsp⟩ := U.sp_exists s
  have HSP := Hd.mk hsp
  have HC := fun w1 => Hd.mk (rcount_calls hsp w1 (by omega))
  have HNEW := fun w1 => Hd.mk (new_calls hsp w1 (by omega))
  by_cases hr : rest = []
  · subst hr
    obtain rfl : s = U.encs rs := by have := hsp.eq; simpa using this
    have HBL : Hd (bl rs ≤ 8000) := ⟨by have : (U.encs rs).length = bl rs := rfl; omega⟩
    have HALL := Hd.mk hsp.all
    clear hsp h1 h2
    go_enter Tryd.func8, Tryd.ntmps8
    go_wp2_with (first
      | (go_at_call 18; refine (HC _).out.mono ?_; rintro e w1 ⟨hb1, he, -⟩; obtain rfl := he rfl; have HB1 := Hd.mk (ex_alloc (ex_alloc hb1 (.cells #[.int .i64 (cnt rs).b, .int .i64 (cnt rs).h, .int .i64 (cnt rs).r, .int .i64 (cnt rs).l] 36)) (.cells #[.int .i64 0, .int .i64 (-1)] 25)); clear hb1 he; unfold fltV)
      | (go_at_call 40; refine (HNEW _).out.mono ?_; rintro e w2 ⟨hb2, -, -, h3⟩; obtain ⟨p, t, rfl, hat, hgd, hrr, -, -⟩ := h3 rfl HBL.out; have HB2 := Hd.mk (bstep HB1.out hb2); have HAT := Hd.mk hat; have HGD := Hd.mk hgd; have HRR := Hd.mk hrr; clear hb2 h3 hat hgd hrr))
    refine (rturn_calls (u := unit) (tu := 1) (HSL.out.below HB2.out) HP.out HALL.out HBL.out HN.out).mono ?_
    rintro e w3 ⟨hb3, v3, o3, k3, rfl, hs3, hr3⟩
    have HB3 := Hd.mk (bstep HB2.out hb3)
    have HAT3 := Hd.mk (HAT.out.below hb3)
    have HS3 := Hd.mk hs3
    have HR3 := Hd.mk hr3
    obtain ⟨A3, c3, rfl, -⟩ := hs3
    clear hb3 hr3
    go_wp2_with fail
    refine (to_calls (u := unit) HAT3.out HGD.out HRR.out.symm (HG.out.below HB3.out) (HSL.out.below HB3.out) HP.out HN.out).mono ?_
    rintro e w4 ⟨hb4, v4, o4, k4, rfl, hs4, hr4⟩
    obtain ⟨rfl, rfl⟩ := hr4.unique HR3.out
    have HB4 := Hd.mk (bstep HB3.out hb4)
    have HAT4 := Hd.mk (HAT3.out.below hb4)
    have HS34 := Hd.mk (HS3.out.below hb4)
    have HS4 := Hd.mk hs4
    obtain ⟨A4, c4, rfl, -⟩ := hs4
    obtain ⟨er4, her4⟩ : ∃ x, x = erV k4 := ⟨_, rfl⟩
    have HER4 := Hd.mk her4
    rw [← her4]
    clear hb4 hr4 her4
    go_wp2_with fail
    refine (rturn_calls (u := 1) (tu := unit) (HSL.out.below HB4.out) HP.out HALL.out HBL.out HN.out).mono ?_
    rintro e w5 ⟨hb5, v5, o5, k5, rfl, hs5, hr5⟩
    have HB5 := Hd.mk (bstep HB4.out hb5)
    have HAT5 := Hd.mk (HAT4.out.below hb5)
    have HS35 := Hd.mk (HS34.out.below hb5)
    have HS45 := Hd.mk (HS4.out.below hb5)
    have HS5 := Hd.mk hs5
    have HR5 := Hd.mk hr5
    obtain ⟨A5, c5, rfl, -⟩ := hs5
    clear hb5 hr5
    go_wp2_with fail
    refine (from_calls (u := unit) HAT5.out HGD.out HRR.out.symm (HG.out.below HB5.out) (HSL.out.below HB5.out) HP.out HN.out).mono ?_
    rintro e w6 ⟨hb6, v6, o6, k6, rfl, hs6, hr6⟩
    obtain ⟨rfl, rfl⟩ := hr6.unique HR5.out
    have HB6 := Hd.mk (bstep HB5.out hb6)
    have HS36 := Hd.mk (HS35.out.below hb6)
    have HS46 := Hd.mk (HS45.out.below hb6)
    have HS56 := Hd.mk (HS5.out.below hb6)
    have HS6 := Hd.mk hs6
    obtain ⟨A6, c6, rfl, -⟩ := hs6
    obtain ⟨er6, her6⟩ : ∃ x, x = erV k6 := ⟨_, rfl⟩
    have HER6 := Hd.mk her6
    rw [← her6]
    clear hb6 hr6 her6
    go_wp2_with fail
    refine (bare_true (e := k4) (by rw [HER4.out]; exact errV_erV _ _) (HG.out.below HB6.out)).mono ?_
    rintro e w7 ⟨rfl, hb7⟩
    have HB7 := Hd.mk (bstep HB6.out hb7)
    have HS37 := Hd.mk (HS36.out.below hb7)
    have HS47 := Hd.mk (HS46.out.below hb7)
    have HS57 := Hd.mk (HS56.out.below hb7)
    have HS67 := Hd.mk (HS6.out.below hb7)
    clear hb7
    go_wp2_with fail
    refine (same_calls HS47.out HS37.out).mono ?_
    rintro e w8 ⟨rfl, hb8⟩
    have HB8 := Hd.mk (bstep HB7.out hb8)
    have HS58 := Hd.mk (HS57.out.below hb8)
    have HS68 := Hd.mk (HS67.out.below hb8)
    clear hb8
    go_wp2_with fail
    refine (bare_true (e := k6) (by rw [HER6.out]; exact errV_erV _ _) (HG.out.below HB8.out)).mono ?_
    rintro e w9 ⟨rfl, hb9⟩
    have HB9 := Hd.mk (bstep HB8.out hb9)
    have HS59 := Hd.mk (HS58.out.below hb9)
    have HS69 := Hd.mk (HS68.out.below hb9)
    clear hb9
    go_wp2_with fail
    refine (same_calls HS69.out HS59.out).mono ?_
    rintro e w10 ⟨rfl, hb10⟩
    have HB10 := Hd.mk (bstep HB9.out hb10)
    clear hb10
    go_wp2_with fail
    go_ret
    exact ⟨rfl, HB10.out⟩
  · have HNE := Hd.mk hr
    clear hsp hr h1 h2
    go_enter Tryd.func8, Tryd.ntmps8
    go_wp2_with (first
      | (go_at_call 18; refine (HC _).out.mono ?_; rintro e w1 ⟨hb1, -, he⟩; obtain rfl := he HNE.out; have HB1 := Hd.mk hb1; clear hb1 he; unfold fltV))
    go_ret
    exact ⟨rfl, ex_alloc (ex_alloc HB1.out _) _⟩
end Go.Proofs.YtgokmldngnmmhaaDoor
