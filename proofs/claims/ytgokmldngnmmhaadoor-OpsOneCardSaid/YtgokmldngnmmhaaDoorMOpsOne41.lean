/- Several texts of the proof, one behind the other: OpsMeetW, OpsOneW. -/
import Derived.Test.YtgokmldngnmmhaaDoorMOpsOne40
import Derived.Test.YtgokmldngnmmhaaDoorMOpsOne33
/- The walk of the law OpsMeet. -/
namespace Go.Proofs.YtgokmldngnmmhaaDoor
open Go.RowKit
set_option maxRecDepth 100000
theorem encs_inj {R S : List Int} (hR : U.AllR R) (hS : U.AllR S) (h : U.encs R = U.encs S) : R = S := by
  have h1 := U.sp_encs hR
  have h2 := U.sp_encs hS
  rw [h] at h1
  exact (h1.unique h2).1
theorem OpR.rap_norm {l : List PT} {X : List (RU Int)} {R : List Int} (h : OpR l X R) : rap (rnm 0 X) R = rap X R := by
  rw [rnm_rap 0 X R (by have := h.was_; omega)]; rfl
/-- Both ways make the same. -/
theorem meet_eq {la lb : List PT} {X Y : List (RU Int)} {R : List Int} {first : Bool} (ha : OpR la X R) (hb : OpR lb Y R) :
    rap (rnm 0 (rtr (!first) (rnm 0 Y) (rnm 0 X))) (rap X R) = rap (rnm 0 (rtr first (rnm 0 X) (rnm 0 Y))) (rap Y R) := by
  have h1 := ha.norm_
  have h2 := hb.norm_
  obtain ⟨m1, m2, m3⟩ := rtr_meet (first := first) (X := rnm 0 X) (Y := rnm 0 Y) (R := R) h1.was_ h2.was_
  rw [ha.rap_norm, hb.rap_norm] at m1
  have l1 := rap_len ha.was_
  have l2 := rap_len hb.was_
  have w1 := (rnm_was 0 X).2
  have w2 := (rnm_was 0 Y).2
  rw [rnm_rap 0 _ _ (by omega), rnm_rap 0 _ _ (by omega)]
  exact m1.symm
attribute [local go_sem] str_append
set_option maxHeartbeats 4000000 in
theorem opsMeet_walk {s : U.Bs} {la lb : List PT} {va vb : Value} {na nb : Nat} {first : Bool} {w : World} (hg : Hdl w) (hsm : s.length ≤ maxLen) (ha : Sl w 3 va na (opv la)) (hb : Sl w 3 vb nb (opv lb)) :
    Calls Tryd.prog 7 #[.string ⟨s.toArray⟩, va, vb, .bool first] w fun e w' => e = .returned (.bool true) ∧ Below w.heap.size w w' := by
  have HG := Hd.mk hg
  have HSM := Hd.mk hsm
  have HA := Hd.mk ha
  have HB := Hd.mk hb
  obtain ⟨A1, c1, rfl, -⟩ := ha
  obtain ⟨A2, c2, rfl, -⟩ := hb
  clear hg hsm
  go_enter Tryd.func7, Tryd.ntmps7
  go_wp2_with fail
  refine (keepdone_calls HG.out).mono ?_
  rintro e w1 ⟨rfl, hb1⟩
  have HB1 := Hd.mk hb1
  clear hb1
  go_wp2_with fail
  refine (over_calls (HG.out.below HB1.out) (HA.out.below HB1.out) HSM.out).mono ?_
  rintro e w2 ⟨hb2, hp2⟩
  have HB2 := Hd.mk (bstep HB1.out hb2)
  clear hb2
  rcases hp2 with ⟨v2, rfl⟩ | ⟨v2, R, X, lx, rfl, hs2, hR2, hl2, hX, hpx, hnx, hsx⟩
  · go_wp2_with fail
    refine (over_calls (HG.out.below HB2.out) (HB.out.below HB2.out) HSM.out).mono ?_
    rintro e w3 ⟨hb3, hp3⟩
    have HB3 := Hd.mk (bstep HB2.out hb3)
    clear hb3
    obtain ⟨v3, b3, rfl⟩ : ∃ v b, e = .returned (.tuple #[v, .bool b]) := by
      rcases hp3 with ⟨v, h⟩ | ⟨v, _, _, _, h, -⟩
      · exact ⟨v, _, h⟩
      · exact ⟨v, _, h⟩
    clear hp3
    go_wp2_with fail
    go_ret
    exact ⟨rfl, HB3.out⟩
  · subst hs2
    have HX : Hd (OpB lx X R) := ⟨⟨hX, by omega, by omega⟩⟩
    have HXN : Hd (bl R ≤ 1500 ∧ plen lx ≤ 4500) := ⟨hl2, hpx⟩
    have HSX := Hd.mk hsx
    have HR := Hd.mk hR2
    obtain ⟨Ax, cx, rfl, -⟩ := hsx
    clear hR2 hl2 hX hpx hnx
    go_wp2_with fail
    refine (over_calls (HG.out.below HB2.out) (HB.out.below HB2.out) HSM.out).mono ?_
    rintro e w3 ⟨hb3, hp3⟩
    have HB3 := Hd.mk (bstep HB2.out hb3)
    have HSX3 := Hd.mk (HSX.out.below hb3)
    clear hb3
    rcases hp3 with ⟨v3, rfl⟩ | ⟨v3, R', Y, ly, rfl, hs3, hR3, hl3, hY, hpy, hny, hsy⟩
    · go_wp2_with fail
      go_ret
      exact ⟨rfl, HB3.out⟩
    · obtain rfl := encs_inj HR.out hR3 hs3
      have HY : Hd (OpB ly Y R) := ⟨⟨hY, by omega, by omega⟩⟩
      have HYN : Hd (plen ly ≤ 4500) := ⟨hpy⟩
      have HSY := Hd.mk hsy
      obtain ⟨Ay, cy, rfl, -⟩ := hsy
      clear hR3 hl3 hY hpy hny hs3
      go_wp2_with fail
      refine (ktrans_calls (first := first) (HG.out.below HB3.out) HSX3.out HSY.out HX.out HY.out).mono ?_
      rintro e w4 ⟨hb4, v4, lp, rfl, hp4, hs4⟩
      have HB4 := Hd.mk (bstep HB3.out hb4)
      have HSX4 := Hd.mk (HSX3.out.below hb4)
      have HSY4 := Hd.mk (HSY.out.below hb4)
      have HP := Hd.mk hp4
      have HSP := Hd.mk hs4
      obtain ⟨Ap, cp, rfl, -⟩ := hs4
      clear hb4 hp4
      go_wp2_with fail
      refine (ktrans_calls (first := !first) (HG.out.below HB4.out) HSY4.out HSX4.out HY.out HX.out).mono ?_
      rintro e w5 ⟨hb5, v5, lq, rfl, hp5, hs5⟩
      have HB5 := Hd.mk (bstep HB4.out hb5)
      have HSX5 := Hd.mk (HSX4.out.below hb5)
      have HSY5 := Hd.mk (HSY4.out.below hb5)
      have HSP5 := Hd.mk (HSP.out.below hb5)
      have HQ := Hd.mk hp5
      have HSQ := Hd.mk hs5
      obtain ⟨Aq, cq, rfl, -⟩ := hs5
      clear hb5 hp5
      go_wp2_with fail
      refine (kapply_calls (HG.out.below HB5.out) HSX5.out HX.out HR.out).mono ?_
      rintro e w6 ⟨rfl, hb6⟩
      have HB6 := Hd.mk (bstep HB5.out hb6)
      have HSY6 := Hd.mk (HSY5.out.below hb6)
      have HSP6 := Hd.mk (HSP5.out.below hb6)
      have HSQ6 := Hd.mk (HSQ.out.below hb6)
      clear hb6
      go_wp2_with fail
      refine (kapply_calls (HG.out.below HB6.out) HSY6.out HY.out HR.out).mono ?_
      rintro e w7 ⟨rfl, hb7⟩
      have HB7 := Hd.mk (bstep HB6.out hb7)
      have HSP7 := Hd.mk (HSP6.out.below hb7)
      have HSQ7 := Hd.mk (HSQ6.out.below hb7)
      clear hb7
      go_wp2_with fail
      have HQB : Hd (OpB lq (rnm 0 (rtr (!first) (rnm 0 Y) (rnm 0 X))) (rap X R)) := ⟨⟨HQ.out.1, by have := HX.out.op.bounds; have := HXN.out; omega, by have := tr_plen HQ.out.1 HY.out.op HX.out.op; have := HYN.out; omega⟩⟩
      refine (kapply_calls (HG.out.below HB7.out) HSQ7.out HQB.out (rap_all HX.out.op.allP HR.out)).mono ?_
      rintro e w8 ⟨rfl, hb8⟩
      have HB8 := Hd.mk (bstep HB7.out hb8)
      have HSP8 := Hd.mk (HSP7.out.below hb8)
      clear hb8
      go_wp2_with fail
      have HPB : Hd (OpB lp (rnm 0 (rtr first (rnm 0 X) (rnm 0 Y))) (rap Y R)) := ⟨⟨HP.out.1, by have := HY.out.op.bounds; have := HXN.out; have := HYN.out; omega, by have := tr_plen HP.out.1 HX.out.op HY.out.op; have := HXN.out; omega⟩⟩
      refine (kapply_calls (HG.out.below HB8.out) HSP8.out HPB.out (rap_all HY.out.op.allP HR.out)).mono ?_
      rintro e w9 ⟨rfl, hb9⟩
      have HB9 := Hd.mk (bstep HB8.out hb9)
      have HM : Hd (rap (rnm 0 (rtr (!first) (rnm 0 Y) (rnm 0 X))) (rap X R) = rap (rnm 0 (rtr first (rnm 0 X) (rnm 0 Y))) (rap Y R)) := ⟨meet_eq HX.out.op HY.out.op⟩
      clear hb9
      rw [HM.out]
      go_wp2_with fail
      go_ret
      exact ⟨rfl, HB9.out⟩
end Go.Proofs.YtgokmldngnmmhaaDoor
/- The walk of the law OpsOne. -/
namespace Go.Proofs.YtgokmldngnmmhaaDoor
open Go.RowKit
set_option maxRecDepth 100000
/-- Three in one make what the three make. -/
theorem one_eq {X Y Z : List (RU Int)} {R : List Int} (hx : rwas X = R.length) (hy : rwas Y = rlen X) (hz : rwas Z = rlen Y) : rap (rnm 0 (rcm (rnm 0 (rcm X Y)) Z)) R = rap Z (rap Y (rap X R)) := by
  have h1 := rcm_was hy
  have h3 := rnm_was 0 (rcm X Y)
  have h5 := rcm_was (X := rnm 0 (rcm X Y)) (Y := Z) (by omega)
  rw [rnm_rap 0 _ _ (by omega)]
  rw [List.drop_zero, rcm_rap (by omega) (by omega), rnm_rap 0 _ _ (by omega), List.drop_zero, rcm_rap hx hy]
attribute [local go_sem] str_append
set_option maxHeartbeats 8000000 in
theorem opsOne_walk {s : U.Bs} {la lb lc : List PT} {va vb vc : Value} {na nb nc : Nat} {w : World} (hg : Hdl w) (hsm : s.length ≤ maxLen) (ha : Sl w 3 va na (opv la)) (hb : Sl w 3 vb nb (opv lb)) (hc : Sl w 3 vc nc (opv lc)) :
    Calls Tryd.prog 12 #[.string ⟨s.toArray⟩, va, vb, vc] w fun e w' => e = .returned (.bool true) ∧ Below w.heap.size w w' := by
  have HG := Hd.mk hg
  have HSM := Hd.mk hsm
  have HA := Hd.mk ha
  have HB := Hd.mk hb
  have HC := Hd.mk hc
  obtain ⟨A1, c1, rfl, -⟩ := ha
  obtain ⟨A2, c2, rfl, -⟩ := hb
  obtain ⟨A3, c3, rfl, -⟩ := hc
  clear hg hsm
  go_enter Tryd.func12, Tryd.ntmps12
  go_wp2_with fail
  refine (keepdone_calls HG.out).mono ?_
  rintro e w1 ⟨rfl, hb1⟩
  have HB1 := Hd.mk hb1
  clear hb1
  go_wp2_with fail
  refine (over_calls (HG.out.below HB1.out) (HA.out.below HB1.out) HSM.out).mono ?_
  rintro e w2 ⟨hb2, hp2⟩
  have HB2 := Hd.mk (bstep HB1.out hb2)
  clear hb2
  rcases hp2 with ⟨v2, rfl⟩ | ⟨v2, R, X, lx, rfl, hs2, hR2, hl2, hX, hpx, hnx, hsx⟩
  · go_wp2_with fail
    go_ret
    exact ⟨rfl, HB2.out⟩
  · subst hs2
    have HX : Hd (OpB lx X R) := ⟨⟨hX, by omega, by omega⟩⟩
    have HXN : Hd (bl R ≤ 1500 ∧ plen lx ≤ 4500) := ⟨hl2, hpx⟩
    have HSX := Hd.mk hsx
    have HR := Hd.mk hR2
    have HT := Hd.mk (rap_all hX.allP hR2)
    obtain ⟨Ax, cx, rfl, -⟩ := hsx
    clear hR2 hl2 hX hpx hnx
    go_wp2_with fail
    refine (kapply_calls (HG.out.below HB2.out) HSX.out HX.out HR.out).mono ?_
    rintro e w3 ⟨rfl, hb3⟩
    have HB3 := Hd.mk (bstep HB2.out hb3)
    have HSX3 := Hd.mk (HSX.out.below hb3)
    clear hb3
    go_wp2_with fail
    refine (over_calls (s := U.encs (rap X R)) (HG.out.below HB3.out) (HB.out.below HB3.out) (by have := HX.out.op.bounds; have := HXN.out; unfold maxLen; show bl (rap X R) ≤ _; omega)).mono ?_
    rintro e w4 ⟨hb4, hp4⟩
    have HB4 := Hd.mk (bstep HB3.out hb4)
    have HSX4 := Hd.mk (HSX3.out.below hb4)
    clear hb4
    rcases hp4 with ⟨v4, rfl⟩ | ⟨v4, R', Y, ly, rfl, hs4, hR4, hl4, hY, hpy, hny, hsy⟩
    · go_wp2_with fail
      go_ret
      exact ⟨rfl, HB4.out⟩
    · obtain rfl := encs_inj HT.out hR4 hs4
      have HY : Hd (OpB ly Y (rap X R)) := ⟨⟨hY, by omega, by omega⟩⟩
      have HYN : Hd (bl (rap X R) ≤ 1500 ∧ plen ly ≤ 4500) := ⟨hl4, hpy⟩
      have HSY := Hd.mk hsy
      have HU := Hd.mk (rap_all hY.allP HT.out)
      obtain ⟨Ay, cy, rfl, -⟩ := hsy
      clear hR4 hl4 hY hpy hny hs4
      go_wp2_with fail
      refine (kapply_calls (HG.out.below HB4.out) HSY.out HY.out HT.out).mono ?_
      rintro e w5 ⟨rfl, hb5⟩
      have HB5 := Hd.mk (bstep HB4.out hb5)
      have HSX5 := Hd.mk (HSX4.out.below hb5)
      have HSY5 := Hd.mk (HSY.out.below hb5)
      clear hb5
      go_wp2_with fail
      refine (over_calls (s := U.encs (rap Y (rap X R))) (HG.out.below HB5.out) (HC.out.below HB5.out) (by have := HY.out.op.bounds; have := HYN.out; unfold maxLen; show bl (rap Y (rap X R)) ≤ _; omega)).mono ?_
      rintro e w6 ⟨hb6, hp6⟩
      have HB6 := Hd.mk (bstep HB5.out hb6)
      have HSX6 := Hd.mk (HSX5.out.below hb6)
      have HSY6 := Hd.mk (HSY5.out.below hb6)
      clear hb6
      rcases hp6 with ⟨v6, rfl⟩ | ⟨v6, R', Z, lz, rfl, hs6, hR6, hl6, hZ, hpz, hnz, hsz⟩
      · go_wp2_with fail
        go_ret
        exact ⟨rfl, HB6.out⟩
      · obtain rfl := encs_inj HU.out hR6 hs6
        have HZ : Hd (OpB lz Z (rap Y (rap X R))) := ⟨⟨hZ, by omega, by omega⟩⟩
        have HZN : Hd (bl (rap Y (rap X R)) ≤ 1500 ∧ plen lz ≤ 4500) := ⟨hl6, hpz⟩
        have HSZ := Hd.mk hsz
        have HV := Hd.mk (rap_all hZ.allP HU.out)
        obtain ⟨Az, cz, rfl, -⟩ := hsz
        clear hR6 hl6 hZ hpz hnz hs6
        have HVN : Hd (bl (rap Z (rap Y (rap X R))) ≤ 6000) := ⟨by have := HZ.out.op.bounds; have := HZN.out; omega⟩
        have HW : Hd (rwas X = R.length ∧ rwas Y = rlen X ∧ rwas Z = rlen Y) := ⟨HX.out.op.was_, by rw [HY.out.op.was_, rap_len HX.out.op.was_], by rw [HZ.out.op.was_, rap_len HY.out.op.was_]⟩
        go_wp2_with fail
        refine (kapply_calls (HG.out.below HB6.out) HSZ.out HZ.out HU.out).mono ?_
        rintro e w7 ⟨rfl, hb7⟩
        have HB7 := Hd.mk (bstep HB6.out hb7)
        have HSX7 := Hd.mk (HSX6.out.below hb7)
        have HSY7 := Hd.mk (HSY6.out.below hb7)
        have HSZ7 := Hd.mk (HSZ.out.below hb7)
        clear hb7
        go_wp2_with fail
        refine (kcomp_calls (HG.out.below HB7.out) HSX7.out HSY7.out HX.out HY.out).mono ?_
        rintro e w8 ⟨hb8, v8, lxy, rfl, hop8, hs8⟩
        have HB8 := Hd.mk (bstep HB7.out hb8)
        have HSX8 := Hd.mk (HSX7.out.below hb8)
        have HSY8 := Hd.mk (HSY7.out.below hb8)
        have HSZ8 := Hd.mk (HSZ7.out.below hb8)
        have HXY : Hd (OpB lxy (rnm 0 (rcm X Y)) R) := ⟨⟨hop8.1, by have := HXN.out; omega, by
          have h1 := hop8.1.bounds
          rw [rnm_rap 0 _ _ (by rw [(rcm_was HW.out.2.1).1, HW.out.1]; omega), List.drop_zero, rcm_rap HW.out.1 HW.out.2.1] at h1
          have := HZN.out
          omega⟩⟩
        have HSXY := Hd.mk hs8
        obtain ⟨A8, c8, rfl, -⟩ := hs8
        clear hb8 hop8
        go_wp2_with fail
        refine (kcomp_calls (HG.out.below HB8.out) HSY8.out HSZ8.out HY.out HZ.out).mono ?_
        rintro e w9 ⟨hb9, v9, lyz, rfl, hop9, hs9⟩
        have HB9 := Hd.mk (bstep HB8.out hb9)
        have HSX9 := Hd.mk (HSX8.out.below hb9)
        have HSZ9 := Hd.mk (HSZ8.out.below hb9)
        have HSXY9 := Hd.mk (HSXY.out.below hb9)
        have HYZ : Hd (OpB lyz (rnm 0 (rcm Y Z)) (rap X R)) := ⟨⟨hop9.1, by have := HYN.out; omega, by
          have h1 := hop9.1.bounds
          rw [rnm_rap 0 _ _ (by rw [(rcm_was HW.out.2.2).1, HY.out.op.was_]; omega), List.drop_zero, rcm_rap HY.out.op.was_ HW.out.2.2] at h1
          have := HVN.out
          omega⟩⟩
        have HSYZ := Hd.mk hs9
        obtain ⟨A9, c9, rfl, -⟩ := hs9
        clear hb9 hop9
        go_wp2_with fail
        have HZ2 : Hd (OpB lz Z (rap (rnm 0 (rcm X Y)) R)) := ⟨by
          rw [rnm_rap 0 _ _ (by rw [(rcm_was HW.out.2.1).1, HW.out.1]; omega), List.drop_zero, rcm_rap HW.out.1 HW.out.2.1]
          exact HZ.out⟩
        refine (kcomp_calls (HG.out.below HB9.out) HSXY9.out HSZ9.out HXY.out HZ2.out).mono ?_
        rintro e w10 ⟨hb10, v10, ll, rfl, hop10, hs10⟩
        have HB10 := Hd.mk (bstep HB9.out hb10)
        have HSX10 := Hd.mk (HSX9.out.below hb10)
        have HSYZ10 := Hd.mk (HSYZ.out.below hb10)
        have HLO := Hd.mk hop10
        have HLB : Hd (OpB ll (rnm 0 (rcm (rnm 0 (rcm X Y)) Z)) R) := ⟨⟨hop10.1, by have := HXN.out; omega, by
          have h1 := hop10.1.bounds
          rw [one_eq HW.out.1 HW.out.2.1 HW.out.2.2] at h1
          have := HVN.out
          omega⟩⟩
        have HSL := Hd.mk hs10
        obtain ⟨A10, c10, rfl, -⟩ := hs10
        clear hb10 hop10
        go_wp2_with fail
        refine (kcomp_calls (HG.out.below HB10.out) HSX10.out HSYZ10.out HX.out HYZ.out).mono ?_
        rintro e w11 ⟨hb11, v11, lr, rfl, hop11, hs11⟩
        have HB11 := Hd.mk (bstep HB10.out hb11)
        have HSL11 := Hd.mk (HSL.out.below hb11)
        have HLR : Hd (lr = ll) := ⟨by rw [hop11.2, HLO.out.2, rcm_assoc HW.out.2.1 HW.out.2.2]⟩
        obtain rfl := HLR.out
        have HSR := Hd.mk hs11
        obtain ⟨A11, c11, rfl, -⟩ := hs11
        clear hb11 hop11 HLR
        go_wp2_with fail
        refine (kapply_calls (HG.out.below HB11.out) HSL11.out HLB.out HR.out).mono ?_
        rw [one_eq HW.out.1 HW.out.2.1 HW.out.2.2]
        rintro e w12 ⟨rfl, hb12⟩
        have HB12 := Hd.mk (bstep HB11.out hb12)
        have HSL12 := Hd.mk (HSL11.out.below hb12)
        have HSR12 := Hd.mk (HSR.out.below hb12)
        clear hb12
        go_wp2_with fail
        refine (kinv_calls (HG.out.below HB12.out) HSL12.out HLB.out HR.out).mono ?_
        rintro e w13 ⟨hb13, v13, lk, rfl, hop13, hs13⟩
        have HB13 := Hd.mk (bstep HB12.out hb13)
        have HSL13 := Hd.mk (HSL12.out.below hb13)
        have HSR13 := Hd.mk (HSR12.out.below hb13)
        have HRI : Hd (rap (rnm 0 (rinv (rnm 0 (rcm (rnm 0 (rcm X Y)) Z)) R)) (rap Z (rap Y (rap X R))) = R) := ⟨by
          have h1 := rinv_rap HLB.out.op.was_
          rw [one_eq HW.out.1 HW.out.2.1 HW.out.2.2] at h1
          have h2 := rap_len HLB.out.op.was_
          rw [one_eq HW.out.1 HW.out.2.1 HW.out.2.2] at h2
          rw [rnm_rap 0 _ _ (by omega)]
          exact h1.1⟩
        have HKB : Hd (OpB lk (rnm 0 (rinv (rnm 0 (rcm (rnm 0 (rcm X Y)) Z)) R)) (rap Z (rap Y (rap X R)))) := ⟨by
          have h0 := hop13.1
          rw [one_eq HW.out.1 HW.out.2.1 HW.out.2.2] at h0
          have h1 := h0.bounds
          rw [HRI.out] at h1
          have := HVN.out
          have := HXN.out
          exact ⟨h0, by omega, by omega⟩⟩
        have HSK := Hd.mk hs13
        obtain ⟨A13, c13, rfl, -⟩ := hs13
        clear hb13 hop13
        go_wp2_with fail
        refine (same_calls HSL13.out HSR13.out).mono ?_
        rintro e w14 ⟨rfl, hb14⟩
        have HB14 := Hd.mk (bstep HB13.out hb14)
        have HSK14 := Hd.mk (HSK.out.below hb14)
        clear hb14
        go_wp2_with fail
        refine (kapply_calls (HG.out.below HB14.out) HSK14.out HKB.out HV.out).mono ?_
        rw [HRI.out]
        rintro e w15 ⟨rfl, hb15⟩
        have HB15 := Hd.mk (bstep HB14.out hb15)
        clear hb15
        go_wp2_with fail
        go_ret
        exact ⟨rfl, HB15.out⟩
end Go.Proofs.YtgokmldngnmmhaaDoor
