/- The walk of the law OpsApply. -/
import Derived.Test.YthbhhnfhjppbdaaDoorApI
import Derived.Test.YthbhhnfhjppbdaaDoorRefH
import Derived.Test.YthbhhnfhjppbdaaDoorPartS
namespace Go.Proofs.YthbhhnfhjppbdaaDoor
open Go.RowKit
set_option maxRecDepth 100000
attribute [local go_sem ↓] Go.wp_at_zero Go.wp_at_succ
set_option maxHeartbeats 8000000 in
theorem opsApply_walk {l : List PT} {v : Value} {n : Nat} {s : U.Bs} {w : World} (hg : Hdl w) (hsl : Sl w 3 v n (opv l)) (hp : ∀ p ∈ l, p.put.length ≤ 35184372087808) (hpl : plen l ≤ 34359738368) (hsm : s.length ≤ maxLen) :
    Calls Tryd.prog 6 #[v, .string ⟨s.toArray⟩] w fun e w' => e = .returned (.bool true) ∧ Below w.heap.size w w' := by
  have hle := hsl.le
  unfold maxLen at hle hsm
  have HG := Hd.mk hg
  have HSL := Hd.mk hsl
  have HP := Hd.mk hp
  obtain ⟨A, c, rfl, -⟩ := hsl
  clear hp hg
  by_cases hn : 100 < n
  · go_enter Tryd.func6, Tryd.ntmps6
    go_wp2_with fail
    go_ret
    exact ⟨rfl, Below.refl _ _⟩
  · by_cases hs : 3000 < s.length
    · go_enter Tryd.func6, Tryd.ntmps6
      go_wp2_with fail
      go_ret
      exact ⟨rfl, Below.refl _ _⟩
    · obtain ⟨rs, rest, hsp⟩ := U.sp_exists s
      have HSP := Hd.mk hsp
      clear hsp
      go_enter Tryd.func6, Tryd.ntmps6
      go_wp2_with fail
      refine (rcount_calls HSP.out _ (by omega)).mono ?_
      rintro e w1 ⟨hb1, hok, hbad⟩
      have HB1 := Hd.mk hb1
      clear hb1
      by_cases hr : rest = []
      · obtain rfl := hok hr
        unfold fltV
        clear hok hbad hr
        go_wp2_with fail
        obtain ⟨W, hW⟩ : ∃ W, W = ((w1.alloc (.cells #[.int .i64 (cnt rs).b, .int .i64 (cnt rs).h, .int .i64 (cnt rs).r, .int .i64 (cnt rs).l] 48)).alloc (.cells #[.int .i64 0, .int .i64 (-1)] 39)) := ⟨_, rfl⟩
        rw [← hW]
        have hx1 : Below w.heap.size w W := by rw [hW]; exact ex_alloc (ex_alloc HB1.out _) _
        clear hW
        refine (rapply_calls (HSL.out.below hx1) HP.out (by omega) (by omega)).mono ?_
        rintro e w2 ⟨rfl, hb2⟩
        have HB2 := Hd.mk (bstep hx1 hb2)
        clear hb2 hx1
        go_wp2_with fail
        refine (oapply_calls (HG.out.below HB2.out) (HSL.out.below HB2.out) HP.out (by omega) (by omega)).mono ?_
        rintro e w3 ⟨rfl, hb3⟩
        have HB3 := Hd.mk (bstep HB2.out hb3)
        clear hb3
        go_wp2_with fail
        refine (rinv_calls (HSL.out.below HB3.out) HP.out (by omega) (by omega) (by omega)).mono ?_
        rintro e w4 ⟨hb4, v4, rfl, hs4, hn4⟩
        have HB4 := Hd.mk (bstep HB3.out hb4)
        have HS4 := Hd.mk hs4
        have HN4 := Hd.mk hn4
        clear hb4 hs4 hn4
        go_wp2_with fail
        refine (oinv_calls (HG.out.below HB4.out) (HSL.out.below HB4.out) HP.out (by omega) (by omega) (by omega)).mono ?_
        rintro e w5 ⟨hb5, v5, rfl, hs5, hn5⟩
        have HB5 := Hd.mk (bstep HB4.out hb5)
        have HX : Hd (∃ (l : List PT) (n : Nat), Sl w5 3 v4 n (opv l) ∧ Sl w5 3 v5 n (opv l)) := ⟨by
          by_cases h : apc l s = 0
          · exact ⟨_, _, (HS4.out h).below hb5, hs5 h⟩
          · rw [HN4.out h, hn5 h]
            exact ⟨[], 0, Sl.nil _ _, Sl.nil _ _⟩⟩
        obtain ⟨l6, n6, hx4, hx5⟩ := HX.out
        have HX4 := Hd.mk hx4
        have HX5 := Hd.mk hx5
        clear hb5 hs5 hn5 HX hx4 hx5 HS4 HN4
        generalize apr l s = ap at *
        generalize apc l s = ac at *
        go_wp2_with fail
        refine (bare_true (errV_of w5 ac) (HG.out.below HB5.out)).mono ?_
        rintro e w6 ⟨rfl, hb6⟩
        have HB6 := Hd.mk (bstep HB5.out hb6)
        have HX46 := Hd.mk (HX4.out.below hb6)
        have HX56 := Hd.mk (HX5.out.below hb6)
        clear hb6
        have hqq : (ap == ap) = true := beq_self_eq_true _
        go_wp2_with fail
        refine (bare_true (errV_of w6 ac) (HG.out.below HB6.out)).mono ?_
        rintro e w7 ⟨rfl, hb7⟩
        have HB7 := Hd.mk (bstep HB6.out hb7)
        have HX47 := Hd.mk (HX46.out.below hb7)
        have HX57 := Hd.mk (HX56.out.below hb7)
        clear hb7
        go_wp2_with fail
        refine (same_calls HX57.out HX47.out).mono ?_
        rintro e w8 ⟨rfl, hb8⟩
        have HB8 := Hd.mk (bstep HB7.out hb8)
        clear hb8
        go_wp2_with fail
        go_ret
        exact ⟨rfl, HB8.out⟩
      · obtain rfl := hbad hr
        unfold fltV
        clear hok hbad hr
        go_wp2_with fail
        go_ret
        exact ⟨rfl, ex_alloc (ex_alloc HB1.out _) _⟩
end Go.Proofs.YthbhhnfhjppbdaaDoor
