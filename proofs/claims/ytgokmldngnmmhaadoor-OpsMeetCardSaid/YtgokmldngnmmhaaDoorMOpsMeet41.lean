/- The walk of the law OpsMeet. -/
import Derived.Test.YtgokmldngnmmhaaDoorMOpsMeet40
import Derived.Test.YtgokmldngnmmhaaDoorMOpsMeet33
namespace Go.Proofs.YtgokmldngnmmhaaDoor
open Go.RowKit
set_option maxRecDepth 100000
theorem encs_inj {R S : List Int} (hR : U.AllR R) (hS : U.AllR S) (h : U.encs R = U.encs S) : R = S := by
  have h1 := U.sp_encs hR
  have h2 := U.sp_encs hS
  rw [h] at h1
  exact (h1.unique h2).1
theorem OpR.rap_norm {l : List PT} {X : List (RU Int)} {R : List Int} (h : OpR l X R) : rap (rnm 0 X) R = rap X R := by
  rw [rnm_rap 0 X R (by have := h.was_; omega)]; rfl
/-- Both ways make the same. -/
theorem meet_eq {la lb : List PT} {X Y : List (RU Int)} {R : List Int} {first : Bool} (ha : OpR la X R) (hb : OpR lb Y R) :
    rap (rnm 0 (rtr (!first) (rnm 0 Y) (rnm 0 X))) (rap X R) = rap (rnm 0 (rtr first (rnm 0 X) (rnm 0 Y))) (rap Y R) := by
  have h1 := ha.norm_
  have h2 := hb.norm_
  obtain ⟨m1, m2, m3⟩ := rtr_meet (first := first) (X := rnm 0 X) (Y := rnm 0 Y) (R := R) h1.was_ h2.was_
  rw [ha.rap_norm, hb.rap_norm] at m1
  have l1 := rap_len ha.was_
  have l2 := rap_len hb.was_
  have w1 := (rnm_was 0 X).2
  have w2 := (rnm_was 0 Y).2
  rw [rnm_rap 0 _ _ (by omega), rnm_rap 0 _ _ (by omega)]
  exact m1.symm
attribute [local go_sem] str_append
set_option maxHeartbeats 4000000 in
theorem opsMeet_walk {s : U.Bs} {la lb : List PT} {va vb : Value} {na nb : Nat} {first : Bool} {w : World} (hg : Hdl w) (hsm : s.length ≤ maxLen) (ha : Sl w 3 va na (opv la)) (hb : Sl w 3 vb nb (opv lb)) :
    Calls Tryd.prog 7 #[.string ⟨s.toArray⟩, va, vb, .bool first] w fun e w' => e = .returned (.bool true) ∧ Below w.heap.size w w' := by
  have HG := Hd.mk hg
  have HSM := Hd.mk hsm
  have HA := Hd.mk ha
  have HB := Hd.mk hb
  obtain ⟨A1, c1, rfl, -⟩ := ha
  obtain ⟨A2, c2, rfl, -⟩ := hb
  clear hg hsm
  go_enter Tryd.func7, Tryd.ntmps7
  go_wp2_with fail
  refine (keepdone_calls HG.out).mono ?_
  rintro e w1 ⟨rfl, hb1⟩
  have HB1 := Hd.mk hb1
  clear hb1
  go_wp2_with fail
  refine (over_calls (HG.out.below HB1.out) (HA.out.below HB1.out) HSM.out).mono ?_
  rintro e w2 ⟨hb2, hp2⟩
  have HB2 := Hd.mk (bstep HB1.out hb2)
  clear hb2
  rcases hp2 with ⟨v2, rfl⟩ | ⟨v2, R, X, lx, rfl, hs2, hR2, hl2, hX, hpx, hnx, hsx⟩
  · go_wp2_with fail
    refine (over_calls (HG.out.below HB2.out) (HB.out.below HB2.out) HSM.out).mono ?_
    rintro e w3 ⟨hb3, hp3⟩
    have HB3 := Hd.mk (bstep HB2.out hb3)
    clear hb3
    obtain ⟨v3, b3, rfl⟩ : ∃ v b, e = .returned (.tuple #[v, .bool b]) := by
      rcases hp3 with ⟨v, h⟩ | ⟨v, _, _, _, h, -⟩
      · exact ⟨v, _, h⟩
      · exact ⟨v, _, h⟩
    clear hp3
    go_wp2_with fail
    go_ret
    exact ⟨rfl, HB3.out⟩
  · subst hs2
    have HX : Hd (OpB lx X R) := ⟨⟨hX, by omega, by omega⟩⟩
    have HXN : Hd (bl R ≤ 1500 ∧ plen lx ≤ 4500) := ⟨hl2, hpx⟩
    have HSX := Hd.mk hsx
    have HR := Hd.mk hR2
    obtain ⟨Ax, cx, rfl, -⟩ := hsx
    clear hR2 hl2 hX hpx hnx
    go_wp2_with fail
    refine (over_calls (HG.out.below HB2.out) (HB.out.below HB2.out) HSM.out).mono ?_
    rintro e w3 ⟨hb3, hp3⟩
    have HB3 := Hd.mk (bstep HB2.out hb3)
    have HSX3 := Hd.mk (HSX.out.below hb3)
    clear hb3
    rcases hp3 with ⟨v3, rfl⟩ | ⟨v3, R', Y, ly, rfl, hs3, hR3, hl3, hY, hpy, hny, hsy⟩
    · go_wp2_with fail
      go_ret
      exact ⟨rfl, HB3.out⟩
    · obtain rfl := encs_inj HR.out hR3 hs3
      have HY : Hd (OpB ly Y R) := ⟨⟨hY, by omega, by omega⟩⟩
      have HYN : Hd (plen ly ≤ 4500) := ⟨hpy⟩
      have HSY := Hd.mk hsy
      obtain ⟨Ay, cy, rfl, -⟩ := hsy
      clear hR3 hl3 hY hpy hny hs3
      go_wp2_with fail
      refine (ktrans_calls (first := first) (HG.out.below HB3.out) HSX3.out HSY.out HX.out HY.out).mono ?_
      rintro e w4 ⟨hb4, v4, lp, rfl, hp4, hs4⟩
      have HB4 := Hd.mk (bstep HB3.out hb4)
      have HSX4 := Hd.mk (HSX3.out.below hb4)
      have HSY4 := Hd.mk (HSY.out.below hb4)
      have HP := Hd.mk hp4
      have HSP := Hd.mk hs4
      obtain ⟨Ap, cp, rfl, -⟩ := hs4
      clear hb4 hp4
      go_wp2_with fail
      refine (ktrans_calls (first := !first) (HG.out.below HB4.out) HSY4.out HSX4.out HY.out HX.out).mono ?_
      rintro e w5 ⟨hb5, v5, lq, rfl, hp5, hs5⟩
      have HB5 := Hd.mk (bstep HB4.out hb5)
      have HSX5 := Hd.mk (HSX4.out.below hb5)
      have HSY5 := Hd.mk (HSY4.out.below hb5)
      have HSP5 := Hd.mk (HSP.out.below hb5)
      have HQ := Hd.mk hp5
      have HSQ := Hd.mk hs5
      obtain ⟨Aq, cq, rfl, -⟩ := hs5
      clear hb5 hp5
      go_wp2_with fail
      refine (kapply_calls (HG.out.below HB5.out) HSX5.out HX.out HR.out).mono ?_
      rintro e w6 ⟨rfl, hb6⟩
      have HB6 := Hd.mk (bstep HB5.out hb6)
      have HSY6 := Hd.mk (HSY5.out.below hb6)
      have HSP6 := Hd.mk (HSP5.out.below hb6)
      have HSQ6 := Hd.mk (HSQ.out.below hb6)
      clear hb6
      go_wp2_with fail
      refine (kapply_calls (HG.out.below HB6.out) HSY6.out HY.out HR.out).mono ?_
      rintro e w7 ⟨rfl, hb7⟩
      have HB7 := Hd.mk (bstep HB6.out hb7)
      have HSP7 := Hd.mk (HSP6.out.below hb7)
      have HSQ7 := Hd.mk (HSQ6.out.below hb7)
      clear hb7
      go_wp2_with fail
      have HQB : Hd (OpB lq (rnm 0 (rtr (!first) (rnm 0 Y) (rnm 0 X))) (rap X R)) := ⟨⟨HQ.out.1, by have := HX.out.op.bounds; have := HXN.out; omega, by have := tr_plen HQ.out.1 HY.out.op HX.out.op; have := HYN.out; omega⟩⟩
      refine (kapply_calls (HG.out.below HB7.out) HSQ7.out HQB.out (rap_all HX.out.op.allP HR.out)).mono ?_
      rintro e w8 ⟨rfl, hb8⟩
      have HB8 := Hd.mk (bstep HB7.out hb8)
      have HSP8 := Hd.mk (HSP7.out.below hb8)
      clear hb8
      go_wp2_with fail
      have HPB : Hd (OpB lp (rnm 0 (rtr first (rnm 0 X) (rnm 0 Y))) (rap Y R)) := ⟨⟨HP.out.1, by have := HY.out.op.bounds; have := HXN.out; have := HYN.out; omega, by have := tr_plen HP.out.1 HX.out.op HY.out.op; have := HXN.out; omega⟩⟩
      refine (kapply_calls (HG.out.below HB8.out) HSP8.out HPB.out (rap_all HY.out.op.allP HR.out)).mono ?_
      rintro e w9 ⟨rfl, hb9⟩
      have HB9 := Hd.mk (bstep HB8.out hb9)
      have HM : Hd (rap (rnm 0 (rtr (!first) (rnm 0 Y) (rnm 0 X))) (rap X R) = rap (rnm 0 (rtr first (rnm 0 X) (rnm 0 Y))) (rap Y R)) := ⟨meet_eq HX.out.op HY.out.op⟩
      clear hb9
      rw [HM.out]
      go_wp2_with fail
      go_ret
      exact ⟨rfl, HB9.out⟩
end Go.Proofs.YtgokmldngnmmhaaDoor
