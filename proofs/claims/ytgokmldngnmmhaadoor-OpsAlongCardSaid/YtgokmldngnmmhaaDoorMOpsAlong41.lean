/- Several texts of the proof, one behind the other: OpsMeetW, OpsAlongW. -/
import Derived.Test.YtgokmldngnmmhaaDoorMOpsAlong40
import Derived.Test.YtgokmldngnmmhaaDoorMOpsAlong33
/- The walk of the law OpsMeet. -/
namespace Go.Proofs.YtgokmldngnmmhaaDoor
open Go.RowKit
set_option maxRecDepth 100000
theorem encs_inj {R S : List Int} (hR : U.AllR R) (hS : U.AllR S) (h : U.encs R = U.encs S) : R = S := by
  have h1 := U.sp_encs hR
  have h2 := U.sp_encs hS
  rw [h] at h1
  exact (h1.unique h2).1
theorem OpR.rap_norm {l : List PT} {X : List (RU Int)} {R : List Int} (h : OpR l X R) : rap (rnm 0 X) R = rap X R := by
  rw [rnm_rap 0 X R (by have := h.was_; omega)]; rfl
/-- Both ways make the same. -/
theorem meet_eq {la lb : List PT} {X Y : List (RU Int)} {R : List Int} {first : Bool} (ha : OpR la X R) (hb : OpR lb Y R) :
    rap (rnm 0 (rtr (!first) (rnm 0 Y) (rnm 0 X))) (rap X R) = rap (rnm 0 (rtr first (rnm 0 X) (rnm 0 Y))) (rap Y R) := by
  have h1 := ha.norm_
  have h2 := hb.norm_
  obtain ⟨m1, m2, m3⟩ := rtr_meet (first := first) (X := rnm 0 X) (Y := rnm 0 Y) (R := R) h1.was_ h2.was_
  rw [ha.rap_norm, hb.rap_norm] at m1
  have l1 := rap_len ha.was_
  have l2 := rap_len hb.was_
  have w1 := (rnm_was 0 X).2
  have w2 := (rnm_was 0 Y).2
  rw [rnm_rap 0 _ _ (by omega), rnm_rap 0 _ _ (by omega)]
  exact m1.symm
attribute [local go_sem] str_append
set_option maxHeartbeats 4000000 in
theorem opsMeet_walk {s : U.Bs} {la lb : List PT} {va vb : Value} {na nb : Nat} {first : Bool} {w : World} (hg : Hdl w) (hsm : s.length ≤ maxLen) (ha : Sl w 3 va na (opv la)) (hb : Sl w 3 vb nb (opv lb)) :
    Calls Tryd.prog 7 #[.string ⟨s.toArray⟩, va, vb, .bool first] w fun e w' => e = .returned (.bool true) ∧ Below w.heap.size w w' := by
  have HG := Hd.mk hg
  have HSM := Hd.mk hsm
  have HA := Hd.mk ha
  have HB := Hd.mk hb
  obtain ⟨A1, c1, rfl, -⟩ := ha
  obtain ⟨A2, c2, rfl, -⟩ := hb
  clear hg hsm
  go_enter Tryd.func7, Tryd.ntmps7
  go_wp2_with fail
  refine (keepdone_calls HG.out).mono ?_
  rintro e w1 ⟨rfl, hb1⟩
  have HB1 := Hd.mk hb1
  clear hb1
  go_wp2_with fail
  refine (over_calls (HG.out.below HB1.out) (HA.out.below HB1.out) HSM.out).mono ?_
  rintro e w2 ⟨hb2, hp2⟩
  have HB2 := Hd.mk (bstep HB1.out hb2)
  clear hb2
  rcases hp2 with ⟨v2, rfl⟩ | ⟨v2, R, X, lx, rfl, hs2, hR2, hl2, hX, hpx, hnx, hsx⟩
  · go_wp2_with fail
    refine (over_calls (HG.out.below HB2.out) (HB.out.below HB2.out) HSM.out).mono ?_
    rintro e w3 ⟨hb3, hp3⟩
    have HB3 := Hd.mk (bstep HB2.out hb3)
    clear hb3
    obtain ⟨v3, b3, rfl⟩ : ∃ v b, e = .returned (.tuple #[v, .bool b]) := by
      rcases hp3 with ⟨v, h⟩ | ⟨v, _, _, _, h, -⟩
      · exact ⟨v, _, h⟩
      · exact ⟨v, _, h⟩
    clear hp3
    go_wp2_with fail
    go_ret
    exact ⟨rfl, HB3.out⟩
  · subst hs2
    have HX : Hd (OpB lx X R) := ⟨⟨hX, by omega, by omega⟩⟩
    have HXN : Hd (bl R ≤ 1500 ∧ plen lx ≤ 4500) := ⟨hl2, hpx⟩
    have HSX := Hd.mk hsx
    have HR := Hd.mk hR2
    obtain ⟨Ax, cx, rfl, -⟩ := hsx
    clear hR2 hl2 hX hpx hnx
    go_wp2_with fail
    refine (over_calls (HG.out.below HB2.out) (HB.out.below HB2.out) HSM.out).mono ?_
    rintro e w3 ⟨hb3, hp3⟩
    have HB3 := Hd.mk (bstep HB2.out hb3)
    have HSX3 := Hd.mk (HSX.out.below hb3)
    clear hb3
    rcases hp3 with ⟨v3, rfl⟩ | ⟨v3, R', Y, ly, rfl, hs3, hR3, hl3, hY, hpy, hny, hsy⟩
    · go_wp2_with fail
      go_ret
      exact ⟨rfl, HB3.out⟩
    · obtain rfl := encs_inj HR.out hR3 hs3
      have HY : Hd (OpB ly Y R) := ⟨⟨hY, by omega, by omega⟩⟩
      have HYN : Hd (plen ly ≤ 4500) := ⟨hpy⟩
      have HSY := Hd.mk hsy
      obtain ⟨Ay, cy, rfl, -⟩ := hsy
      clear hR3 hl3 hY hpy hny hs3
      go_wp2_with fail
      refine (ktrans_calls (first := first) (HG.out.below HB3.out) HSX3.out HSY.out HX.out HY.out).mono ?_
      rintro e w4 ⟨hb4, v4, lp, rfl, hp4, hs4⟩
      have HB4 := Hd.mk (bstep HB3.out hb4)
      have HSX4 := Hd.mk (HSX3.out.below hb4)
      have HSY4 := Hd.mk (HSY.out.below hb4)
      have HP := Hd.mk hp4
      have HSP := Hd.mk hs4
      obtain ⟨Ap, cp, rfl, -⟩ := hs4
      clear hb4 hp4
      go_wp2_with fail
      refine (ktrans_calls (first := !first) (HG.out.below HB4.out) HSY4.out HSX4.out HY.out HX.out).mono ?_
      rintro e w5 ⟨hb5, v5, lq, rfl, hp5, hs5⟩
      have HB5 := Hd.mk (bstep HB4.out hb5)
      have HSX5 := Hd.mk (HSX4.out.below hb5)
      have HSY5 := Hd.mk (HSY4.out.below hb5)
      have HSP5 := Hd.mk (HSP.out.below hb5)
      have HQ := Hd.mk hp5
      have HSQ := Hd.mk hs5
      obtain ⟨Aq, cq, rfl, -⟩ := hs5
      clear hb5 hp5
      go_wp2_with fail
      refine (kapply_calls (HG.out.below HB5.out) HSX5.out HX.out HR.out).mono ?_
      rintro e w6 ⟨rfl, hb6⟩
      have HB6 := Hd.mk (bstep HB5.out hb6)
      have HSY6 := Hd.mk (HSY5.out.below hb6)
      have HSP6 := Hd.mk (HSP5.out.below hb6)
      have HSQ6 := Hd.mk (HSQ.out.below hb6)
      clear hb6
      go_wp2_with fail
      refine (kapply_calls (HG.out.below HB6.out) HSY6.out HY.out HR.out).mono ?_
      rintro e w7 ⟨rfl, hb7⟩
      have HB7 := Hd.mk (bstep HB6.out hb7)
      have HSP7 := Hd.mk (HSP6.out.below hb7)
      have HSQ7 := Hd.mk (HSQ6.out.below hb7)
      clear hb7
      go_wp2_with fail
      have HQB : Hd (OpB lq (rnm 0 (rtr (!first) (rnm 0 Y) (rnm 0 X))) (rap X R)) := ⟨⟨HQ.out.1, by have := HX.out.op.bounds; have := HXN.out; omega, by have := tr_plen HQ.out.1 HY.out.op HX.out.op; have := HYN.out; omega⟩⟩
      refine (kapply_calls (HG.out.below HB7.out) HSQ7.out HQB.out (rap_all HX.out.op.allP HR.out)).mono ?_
      rintro e w8 ⟨rfl, hb8⟩
      have HB8 := Hd.mk (bstep HB7.out hb8)
      have HSP8 := Hd.mk (HSP7.out.below hb8)
      clear hb8
      go_wp2_with fail
      have HPB : Hd (OpB lp (rnm 0 (rtr first (rnm 0 X) (rnm 0 Y))) (rap Y R)) := ⟨⟨HP.out.1, by have := HY.out.op.bounds; have := HXN.out; have := HYN.out; omega, by have := tr_plen HP.out.1 HX.out.op HY.out.op; have := HXN.out; omega⟩⟩
      refine (kapply_calls (HG.out.below HB8.out) HSP8.out HPB.out (rap_all HY.out.op.allP HR.out)).mono ?_
      rintro e w9 ⟨rfl, hb9⟩
      have HB9 := Hd.mk (bstep HB8.out hb9)
      have HM : Hd (rap (rnm 0 (rtr (!first) (rnm 0 Y) (rnm 0 X))) (rap X R) = rap (rnm 0 (rtr first (rnm 0 X) (rnm 0 Y))) (rap Y R)) := ⟨meet_eq HX.out.op HY.out.op⟩
      clear hb9
      rw [HM.out]
      go_wp2_with fail
      go_ret
      exact ⟨rfl, HB9.out⟩
end Go.Proofs.YtgokmldngnmmhaaDoor
/- The walk of the law OpsAlong. -/
namespace Go.Proofs.YtgokmldngnmmhaaDoor
open Go.RowKit
set_option maxRecDepth 100000
theorem rmap_rnm_rap {α β : Type} (f : α → β) (W : List (RU α)) (S : List β) (h : rwas W ≤ S.length) : rap (rmap f (rnm 0 W)) S = rap (rmap f W) S := by
  rw [rmap_rnm, rnm_rap 0 _ _ (by have := (rmap_was f W).1; omega)]; rfl
/-- Both ways make as many bytes. -/
theorem along_len {X Y Z : List (RU Int)} {V R : List Int} {first : Bool} (hx : rwas X = R.length) (hz : rwas Z = R.length) (hy : rwas Y = rlen X) (hU : V = rap Y (rap X R)) :
    bl (rap (rnm 0 (rtr first (rnm 0 (rnm 0 (rtr first (rnm 0 Z) (rnm 0 X)))) (rnm 0 Y))) V) = bl (rap (rnm 0 (rtr first (rnm 0 Z) (rnm 0 (rnm 0 (rcm X Y))))) V) := by
  have nX := rnm_was 0 X
  have nY := rnm_was 0 Y
  have nZ := rnm_was 0 Z
  have m1 := rtr_mask U.wid (first := first) (Z := rnm 0 Z) (Y := rnm 0 X) (by omega)
  have cxy := rcm_was hy
  have lX := rap_len hx
  have w1 : rwas (rtr first (rnm 0 Z) (rnm 0 X)) = rlen X := by
    rw [(rtr_meet (R := R) (by omega) (by omega)).2.1, nX.2]
  have n1 := rnm_was 0 (rtr first (rnm 0 Z) (rnm 0 X))
  have n2 := rnm_was 0 (rnm 0 (rtr first (rnm 0 Z) (rnm 0 X)))
  have m2 := rtr_mask U.wid (first := first) (Z := rnm 0 (rnm 0 (rtr first (rnm 0 Z) (rnm 0 X)))) (Y := rnm 0 Y) (by omega)
  have n3 := rnm_was 0 (rcm X Y)
  have n4 := rnm_was 0 (rnm 0 (rcm X Y))
  have m3 := rtr_mask U.wid (first := first) (Z := rnm 0 Z) (Y := rnm 0 (rnm 0 (rcm X Y))) (by omega)
  have lU : V.length = rlen Y := by rw [hU, rap_len (by rw [lX]; exact hy)]
  have w2 : rwas (rtr first (rnm 0 (rnm 0 (rtr first (rnm 0 Z) (rnm 0 X)))) (rnm 0 Y)) = rlen Y := by
    rw [(rtr_meet (R := rap X R) (by omega) (by omega)).2.1, nY.2]
  have w3 : rwas (rtr first (rnm 0 Z) (rnm 0 (rnm 0 (rcm X Y)))) = rlen Y := by
    rw [(rtr_meet (R := R) (by omega) (by omega)).2.1, n4.2, n3.2, cxy.2]
  have n5 := rnm_was 0 (rtr first (rnm 0 (rnm 0 (rtr first (rnm 0 Z) (rnm 0 X)))) (rnm 0 Y))
  have n6 := rnm_was 0 (rtr first (rnm 0 Z) (rnm 0 (rnm 0 (rcm X Y))))
  rw [← wsum_bl, ← wsum_bl, rap_weight U.wid (by omega), rap_weight U.wid (by omega), rws_rnm, rws_rnm, rmask_rnm, rmask_rnm, m2.2, m3.2, rws_rnm, rws_rnm, m1.2]
  congr 1
  simp only [List.replicate_zero, List.nil_append]
  have lz := rmask_len (rnm 0 Z)
  have e1 : rmask (rnm 0 (rnm 0 (rtr first (rnm 0 Z) (rnm 0 X)))) = rap (rmap (fun _ => true) X) (rmask (rnm 0 Z)) := by
    rw [rmask_rnm, rmask_rnm, m1.1, rmap_rnm_rap _ _ _ (by omega)]; rfl
  have hmx := rmap_was (fun _ : Int => true) X
  have le1 : (rap (rmap (fun _ => true) X) (rmask (rnm 0 Z))).length = rlen X := by rw [rap_len (by omega)]; exact hmx.2
  have hmy := rmap_was (fun _ : Int => true) Y
  rw [m2.1, m3.1, e1, rmap_rnm_rap _ _ _ (by omega), rmap_rnm_rap _ _ _ (by omega), rmap_rnm_rap _ _ _ (by omega), rmap_rcm, rcm_rap (by omega) (by omega)]
attribute [local go_sem] str_append
set_option maxHeartbeats 8000000 in
theorem opsAlong_walk {s : U.Bs} {la lb lc : List PT} {va vb vc : Value} {na nb nc : Nat} {first : Bool} {w : World} (hg : Hdl w) (hsm : s.length ≤ maxLen) (ha : Sl w 3 va na (opv la)) (hb : Sl w 3 vb nb (opv lb)) (hc : Sl w 3 vc nc (opv lc)) :
    Calls Tryd.prog 10 #[.string ⟨s.toArray⟩, va, vb, vc, .bool first] w fun e w' => e = .returned (.bool true) ∧ Below w.heap.size w w' := by
  have HG := Hd.mk hg
  have HSM := Hd.mk hsm
  have HA := Hd.mk ha
  have HB := Hd.mk hb
  have HC := Hd.mk hc
  obtain ⟨A1, c1, rfl, -⟩ := ha
  obtain ⟨A2, c2, rfl, -⟩ := hb
  obtain ⟨A3, c3, rfl, -⟩ := hc
  clear hg hsm
  go_enter Tryd.func10, Tryd.ntmps10
  go_wp2_with fail
  refine (keepdone_calls HG.out).mono ?_
  rintro e w1 ⟨rfl, hb1⟩
  have HB1 := Hd.mk hb1
  clear hb1
  go_wp2_with fail
  refine (over_calls (HG.out.below HB1.out) (HA.out.below HB1.out) HSM.out).mono ?_
  rintro e w2 ⟨hb2, hp2⟩
  have HB2 := Hd.mk (bstep HB1.out hb2)
  clear hb2
  rcases hp2 with ⟨v2, rfl⟩ | ⟨v2, R, X, lx, rfl, hs2, hR2, hl2, hX, hpx, hnx, hsx⟩
  · go_wp2_with fail
    refine (over_calls (HG.out.below HB2.out) (HC.out.below HB2.out) HSM.out).mono ?_
    rintro e w3 ⟨hb3, hp3⟩
    have HB3 := Hd.mk (bstep HB2.out hb3)
    clear hb3
    obtain ⟨v3, b3, rfl⟩ : ∃ v b, e = .returned (.tuple #[v, .bool b]) := by
      rcases hp3 with ⟨v, h⟩ | ⟨v, _, _, _, h, -⟩
      · exact ⟨v, _, h⟩
      · exact ⟨v, _, h⟩
    clear hp3
    go_wp2_with fail
    go_ret
    exact ⟨rfl, HB3.out⟩
  · subst hs2
    have HX : Hd (OpB lx X R) := ⟨⟨hX, by omega, by omega⟩⟩
    have HXN : Hd (bl R ≤ 1500 ∧ plen lx ≤ 4500) := ⟨hl2, hpx⟩
    have HSX := Hd.mk hsx
    have HR := Hd.mk hR2
    have HT := Hd.mk (rap_all hX.allP hR2)
    obtain ⟨Ax, cx, rfl, -⟩ := hsx
    clear hR2 hl2 hX hpx hnx
    go_wp2_with fail
    refine (over_calls (HG.out.below HB2.out) (HC.out.below HB2.out) HSM.out).mono ?_
    rintro e w3 ⟨hb3, hp3⟩
    have HB3 := Hd.mk (bstep HB2.out hb3)
    have HSX3 := Hd.mk (HSX.out.below hb3)
    clear hb3
    rcases hp3 with ⟨v3, rfl⟩ | ⟨v3, R', Z, lz, rfl, hs3, hR3, hl3, hZ, hpz, hnz, hsz⟩
    · go_wp2_with fail
      go_ret
      exact ⟨rfl, HB3.out⟩
    · obtain rfl := encs_inj HR.out hR3 hs3
      have HZ : Hd (OpB lz Z R) := ⟨⟨hZ, by omega, by omega⟩⟩
      have HZN : Hd (plen lz ≤ 4500) := ⟨hpz⟩
      have HSZ := Hd.mk hsz
      obtain ⟨Az, cz, rfl, -⟩ := hsz
      clear hR3 hl3 hZ hpz hnz hs3
      go_wp2_with fail
      refine (kapply_calls (HG.out.below HB3.out) HSX3.out HX.out HR.out).mono ?_
      rintro e w4 ⟨rfl, hb4⟩
      have HB4 := Hd.mk (bstep HB3.out hb4)
      have HSX4 := Hd.mk (HSX3.out.below hb4)
      have HSZ4 := Hd.mk (HSZ.out.below hb4)
      clear hb4
      go_wp2_with fail
      refine (over_calls (s := U.encs (rap X R)) (HG.out.below HB4.out) (HB.out.below HB4.out) (by have := HX.out.op.bounds; have := HXN.out; unfold maxLen; show bl (rap X R) ≤ _; omega)).mono ?_
      rintro e w5 ⟨hb5, hp5⟩
      have HB5 := Hd.mk (bstep HB4.out hb5)
      have HSX5 := Hd.mk (HSX4.out.below hb5)
      have HSZ5 := Hd.mk (HSZ4.out.below hb5)
      clear hb5
      rcases hp5 with ⟨v5, rfl⟩ | ⟨v5, R', Y, ly, rfl, hs5, hR5, hl5, hY, hpy, hny, hsy⟩
      · go_wp2_with fail
        go_ret
        exact ⟨rfl, HB5.out⟩
      · obtain rfl := encs_inj HT.out hR5 hs5
        have HY : Hd (OpB ly Y (rap X R)) := ⟨⟨hY, by omega, by omega⟩⟩
        have HYN : Hd (bl (rap X R) ≤ 1500 ∧ plen ly ≤ 4500) := ⟨hl5, hpy⟩
        have HSY := Hd.mk hsy
        have HU := Hd.mk (rap_all hY.allP HT.out)
        obtain ⟨Ay, cy, rfl, -⟩ := hsy
        clear hR5 hl5 hY hpy hny hs5
        have HUN : Hd (bl (rap Y (rap X R)) ≤ 6000) := ⟨by have := HY.out.op.bounds; have := HYN.out; omega⟩
        have HW : Hd (rwas X = R.length ∧ rwas Y = rlen X ∧ rwas Z = R.length) := ⟨HX.out.op.was_, by rw [HY.out.op.was_, rap_len HX.out.op.was_], HZ.out.op.was_⟩
        go_wp2_with fail
        refine (kcomp_calls (HG.out.below HB5.out) HSX5.out HSY.out HX.out HY.out).mono ?_
        rintro e w6 ⟨hb6, v6, lxy, rfl, hop6, hs6⟩
        have HB6 := Hd.mk (bstep HB5.out hb6)
        have HSX6 := Hd.mk (HSX5.out.below hb6)
        have HSY6 := Hd.mk (HSY.out.below hb6)
        have HSZ6 := Hd.mk (HSZ5.out.below hb6)
        have HEU : Hd (rap (rnm 0 (rcm X Y)) R = rap Y (rap X R)) := ⟨by
          rw [rnm_rap 0 _ _ (by rw [(rcm_was HW.out.2.1).1, HW.out.1]; omega), List.drop_zero, rcm_rap HW.out.1 HW.out.2.1]⟩
        have HXY : Hd (OpB lxy (rnm 0 (rcm X Y)) R) := ⟨⟨hop6.1, by have := HXN.out; omega, by
          have h1 := hop6.1.bounds
          rw [HEU.out] at h1
          have := HUN.out
          omega⟩⟩
        have HSXY := Hd.mk hs6
        obtain ⟨A6, c6, rfl, -⟩ := hs6
        clear hb6 hop6
        go_wp2_with fail
        refine (ktrans_calls (first := first) (HG.out.below HB6.out) HSZ6.out HSX6.out HZ.out HX.out).mono ?_
        rintro e w7 ⟨hb7, v7, l7, rfl, hop7, hs7⟩
        have HB7 := Hd.mk (bstep HB6.out hb7)
        have HSY7 := Hd.mk (HSY6.out.below hb7)
        have HSZ7 := Hd.mk (HSZ6.out.below hb7)
        have HSXY7 := Hd.mk (HSXY.out.below hb7)
        have HP1 : Hd (OpB l7 (rnm 0 (rtr first (rnm 0 Z) (rnm 0 X))) (rap X R)) := ⟨⟨hop7.1, by have := HYN.out; omega, by have := tr_plen hop7.1 HZ.out.op HX.out.op; have := HZN.out; omega⟩⟩
        have HP1N : Hd (plen l7 ≤ 4500) := ⟨by have := tr_plen hop7.1 HZ.out.op HX.out.op; have := HZN.out; omega⟩
        have HS7 := Hd.mk hs7
        obtain ⟨A7, c7, rfl, -⟩ := hs7
        clear hb7 hop7
        go_wp2_with fail
        refine (ktrans_calls (first := first) (HG.out.below HB7.out) HS7.out HSY7.out HP1.out HY.out).mono ?_
        rintro e w8 ⟨hb8, v8, l8, rfl, hop8, hs8⟩
        have HB8 := Hd.mk (bstep HB7.out hb8)
        have HSZ8 := Hd.mk (HSZ7.out.below hb8)
        have HSXY8 := Hd.mk (HSXY7.out.below hb8)
        have HP2 : Hd (OpB l8 (rnm 0 (rtr first (rnm 0 (rnm 0 (rtr first (rnm 0 Z) (rnm 0 X)))) (rnm 0 Y))) (rap Y (rap X R))) := ⟨⟨hop8.1, by have := HUN.out; omega, by have := tr_plen hop8.1 HP1.out.op HY.out.op; have := HP1N.out; omega⟩⟩
        have HS8 := Hd.mk hs8
        obtain ⟨A8, c8, rfl, -⟩ := hs8
        clear hb8 hop8
        go_wp2_with fail
        refine (ktrans_calls (first := first) (HG.out.below HB8.out) HSZ8.out HSXY8.out HZ.out HXY.out).mono ?_
        rintro e w9 ⟨hb9, v9, l9, rfl, hop9, hs9⟩
        have HB9 := Hd.mk (bstep HB8.out hb9)
        have HSXY9 := Hd.mk (HSXY8.out.below hb9)
        have HS89 := Hd.mk (HS8.out.below hb9)
        have HQ : Hd (OpB l9 (rnm 0 (rtr first (rnm 0 Z) (rnm 0 (rnm 0 (rcm X Y))))) (rap Y (rap X R))) := ⟨by
          have h0 := hop9.1
          rw [HEU.out] at h0
          exact ⟨h0, by have := HUN.out; omega, by have := tr_plen hop9.1 HZ.out.op HXY.out.op; have := HZN.out; omega⟩⟩
        have HS9 := Hd.mk hs9
        obtain ⟨A9, c9, rfl, -⟩ := hs9
        clear hb9 hop9
        go_wp2_with fail
        refine (kapply_calls (HG.out.below HB9.out) HSXY9.out HXY.out HR.out).mono ?_
        rw [HEU.out]
        rintro e w10 ⟨rfl, hb10⟩
        have HB10 := Hd.mk (bstep HB9.out hb10)
        have HS810 := Hd.mk (HS89.out.below hb10)
        have HS910 := Hd.mk (HS9.out.below hb10)
        clear hb10
        go_wp2_with fail
        refine (kapply_calls (HG.out.below HB10.out) HS810.out HP2.out HU.out).mono ?_
        have HLEN : Hd (bl (rap (rnm 0 (rtr first (rnm 0 (rnm 0 (rtr first (rnm 0 Z) (rnm 0 X)))) (rnm 0 Y))) (rap Y (rap X R))) = bl (rap (rnm 0 (rtr first (rnm 0 Z) (rnm 0 (rnm 0 (rcm X Y))))) (rap Y (rap X R)))) := ⟨along_len HW.out.1 HW.out.2.2 HW.out.2.1 rfl⟩
        unfold bl at HLEN
        obtain ⟨m1, hm1⟩ : ∃ m, m = U.encs (rap (rnm 0 (rtr first (rnm 0 (rnm 0 (rtr first (rnm 0 Z) (rnm 0 X)))) (rnm 0 Y))) (rap Y (rap X R))) := ⟨_, rfl⟩
        rw [← hm1] at HLEN ⊢
        rintro e w11 ⟨rfl, hb11⟩
        have HB11 := Hd.mk (bstep HB10.out hb11)
        have HS911 := Hd.mk (HS910.out.below hb11)
        clear hb11 hm1
        go_wp2_with fail
        refine (kapply_calls (HG.out.below HB11.out) HS911.out HQ.out HU.out).mono ?_
        obtain ⟨m2, hm2⟩ : ∃ m, m = U.encs (rap (rnm 0 (rtr first (rnm 0 Z) (rnm 0 (rnm 0 (rcm X Y))))) (rap Y (rap X R))) := ⟨_, rfl⟩
        rw [← hm2] at HLEN ⊢
        have hll : ((m1.length : Int) == (m2.length : Int)) = true := by rw [beq_iff_eq, HLEN.out]
        rintro e w12 ⟨rfl, hb12⟩
        have HB12 := Hd.mk (bstep HB11.out hb12)
        clear hb12 hm2
        go_wp2_with fail
        go_ret
        exact ⟨rfl, HB12.out⟩
end Go.Proofs.YtgokmldngnmmhaaDoor
