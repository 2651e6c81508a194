/- ops.checked, ref.both. -/
import Derived.Test.YtdgdajnbkfmijaaGreatDoorMRoomMeets23
import Derived.Test.YtdgdajnbkfmijaaGreatDoorMRoomMeets22
import Derived.Test.YtdgdajnbkfmijaaGreatDoorMRoomMeets1
namespace Go.Proofs.YtdgdajnbkfmijaaGreatDoor
open Go.RowKit
set_option maxRecDepth 100000
attribute [local go_sem ↓] Go.wp_at_zero Go.wp_at_succ
theorem errOf_zero : errOf 0 = .nilIface := rfl
theorem errOf_ne {e : Int} (h : e ≠ 0) : errOf e = .iface 29 (.int .i64 e) := by unfold errOf; rw [if_neg h]
/-- What is wrong with both. -/
noncomputable def chk2 (a b : List PT) : Int := if chk a (wrap64 (was a)) = 0 then chk b (wrap64 (was b)) else chk a (wrap64 (was a))
section
attribute [local go_sem] add_mk
set_option maxHeartbeats 4000000 in
theorem checked_calls {la lb : List PT} {va vb : Value} {na nb : Nat} {w : World} (hg : Hdl w) (ha : Sl w 3 va na (opv la)) (hb : Sl w 3 vb nb (opv lb)) (hpa : ∀ p ∈ la, p.put.length ≤ 35184372087808) (hpb : ∀ p ∈ lb, p.put.length ≤ 35184372087808) :
    Calls Tryz.prog 120 #[va, vb] w fun e w' => e = .returned (errOf (chk2 la lb)) ∧ Below w.heap.size w w' := by
  have HG := Hd.mk hg
  have HA := Hd.mk ha
  have HB := Hd.mk hb
  have HPA := Hd.mk hpa
  have HPB := Hd.mk hpb
  obtain ⟨A1, c1, rfl, -⟩ := ha
  obtain ⟨A2, c2, rfl, -⟩ := hb
  clear hpa hpb hg
  go_enter Tryz.func120, Tryz.ntmps120
  go_wp2_with fail
  refine wp_loop_rounds 3 ?_
  rw [rounds_succ]
  go_wp2_with fail
  have hx : Below w.heap.size w (w.alloc (.cells #[.slice A1 na c1, .slice A2 nb c2] 36)) := ex_alloc (Below.refl _ _) _
  refine (olens_calls (HA.out.below hx)).mono ?_
  rintro e w1 ⟨rfl, hb1⟩
  have HB1 := Hd.mk (bstep hx hb1)
  have HK1 := Hd.mk ((Blk.new w 36 #[.slice A1 na c1, .slice A2 nb c2]).below hb1 (by simp))
  clear hb1 hx
  generalize hx1 : wrap64 (was la) = x1 at *
  have HX1 := Hd.mk hx1
  have hx1b := wrap_in (was la)
  rw [hx1] at hx1b
  clear hx1
  go_wp2_with fail
  refine (ocheck_calls (HG.out.below HB1.out) (HA.out.below HB1.out) HPA.out hx1b).mono ?_
  rintro e w2 ⟨⟨ev, rfl, -, rfl⟩, hb2⟩
  have HB2 := Hd.mk (bstep HB1.out hb2)
  have hk2 := HK1.out.below hb2 HK1.out.lt
  have q0 := hk2.cell 0
  have q1 := hk2.cell 1
  simp only [List.getElem?_toArray, List.getElem?_cons_zero, List.getElem?_cons_succ] at q0 q1
  have HK2 := Hd.mk hk2
  have hlk := hk2.lt
  clear hb2 hk2
  by_cases h0 : chk la x1 = 0
  · rw [h0, errOf_zero]
    have H0 := Hd.mk h0
    clear h0
    go_wp2_with fail
    rw [rounds_succ]
    go_wp2_with fail
    refine (olens_calls (HB.out.below HB2.out)).mono ?_
    rintro e w3 ⟨rfl, hb3⟩
    have HB3 := Hd.mk (bstep HB2.out hb3)
    clear hb3
    generalize hx2 : wrap64 (was lb) = x2 at *
    have HX2 := Hd.mk hx2
    have hx2b := wrap_in (was lb)
    rw [hx2] at hx2b
    clear hx2
    go_wp2_with fail
    refine (ocheck_calls (HG.out.below HB3.out) (HB.out.below HB3.out) HPB.out hx2b).mono ?_
    rintro e w4 ⟨⟨ev, rfl, -, rfl⟩, hb4⟩
    have HB4 := Hd.mk (bstep HB3.out hb4)
    clear hb4
    have HE : Hd (chk2 la lb = chk lb x2) := ⟨by unfold chk2; rw [HX1.out, if_pos H0.out, HX2.out]⟩
    by_cases h1 : chk lb x2 = 0
    · rw [h1, errOf_zero]
      rw [h1] at HE
      clear h1
      go_wp2_with fail
      rw [rounds_succ]
      go_wp2_with fail
      go_ret
      exact ⟨by rw [HE.out, errOf_zero] <;> rfl, HB4.out⟩
    · rw [errOf_ne h1]
      have H1 := Hd.mk h1
      generalize chk lb x2 = z at *
      clear h1
      go_wp2_with fail
      go_ret
      exact ⟨by rw [HE.out, errOf_ne H1.out] <;> rfl, HB4.out⟩
  · have HE : Hd (chk2 la lb = chk la x1) := ⟨by unfold chk2; rw [HX1.out, if_neg h0]⟩
    rw [errOf_ne h0]
    have H0 := Hd.mk h0
    generalize chk la x1 = z at *
    clear h0
    go_wp2_with fail
    go_ret
    exact ⟨by rw [HE.out, errOf_ne H0.out] <;> rfl, HB2.out⟩
end
end Go.Proofs.YtdgdajnbkfmijaaGreatDoor
