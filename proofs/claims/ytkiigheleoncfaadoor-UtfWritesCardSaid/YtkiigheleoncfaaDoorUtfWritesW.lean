/- The walk of the law UtfWrites. -/
import Derived.Test.YtkiigheleoncfaaDoorRefT
import Derived.Deep.RegionHeld3
import Derived.Deep.DrawnRows
namespace Go.Proofs.YtkiigheleoncfaaDoor
open Go.RowKit
set_option maxRecDepth 100000
attribute [local go_sem ↓] Go.wp_at_zero Go.wp_at_succ
set_option maxHeartbeats 4000000 in
theorem utfWrites_x {l lp lr h hp hr : List Int} {v1 v2 : Value} {n1 n2 : Nat} (hl : Tp l lp lr) (hh : U.Hp h hp hr) (hin : U.InH h) (hil : ∀ r ∈ l, -2147483648 ≤ r ∧ r ≤ 2147483647) (w : World) (hg : Hdl w)
    (hsl : Sl w 1 v1 n1 (i32s l)) (hsh : Sl w 1 v2 n2 (u16s h)) (b2 : n1 ≤ 300) (b3 : n2 ≤ 300) :
    Calls Tryd.prog 3 #[v1, v2] w fun e w' => e = .returned (.bool true) ∧ Below w.heap.size w w' := by
  have HSL := Hd.mk hsl
  have HSH := Hd.mk hsh
  have HL := Hd.mk hl
  have HH := Hd.mk hh
  have HIN := Hd.mk hin
  have HIL := Hd.mk hil
  have HG := Hd.mk hg
  obtain ⟨A1, c1, rfl, -⟩ := hsl
  obtain ⟨A2, c2, rfl, -⟩ := hsh
  clear hl hh hin hil hg
  -- what the two Texts tell
  obtain ⟨S1, F1e, F1p, hT1, hT2⟩ : ∃ (S1 : U.Bs) (fe fp : Int), (∀ W, Below w.heap.size w W → Calls Tryd.prog 10 #[.slice A1 n1 c1] W fun e w' => e = .returned (.tuple #[.string ⟨S1.toArray⟩, .agg #[.int .i64 fe, .int .i64 fp]]) ∧ Below W.heap.size W w') ∧
      (∀ W, Below w.heap.size w W → Calls Tryd.prog 11 #[.slice A1 n1 c1] W fun e w' => ∃ ev, e = .returned (.tuple #[.string ⟨S1.toArray⟩, ev]) ∧ ErrV w' ev fe fp ∧ Below W.heap.size W w') := by
    by_cases hlr : lr = []
    · refine ⟨U.encs lp, 0, -1, fun W hW => ?_, fun W hW => ?_⟩
      · refine (rtext_calls HL.out (HSL.out.below hW) (by omega) HIL.out).mono ?_
        rintro e w' ⟨hb, hok, _⟩
        exact ⟨hok hlr, hb⟩
      · refine (text_calls HL.out (HSL.out.below hW) (by omega)).mono ?_
        rintro e w' ⟨hb, hok, _⟩
        exact ⟨.nilIface, hok hlr, .nil, hb⟩
    · refine ⟨[], 3, lp.length, fun W hW => ?_, fun W hW => ?_⟩
      · refine (rtext_calls HL.out (HSL.out.below hW) (by omega) HIL.out).mono ?_
        rintro e w' ⟨hb, _, hbad⟩
        exact ⟨hbad hlr, hb⟩
      · refine (text_calls HL.out (HSL.out.below hW) (by omega)).mono ?_
        rintro e w' ⟨hb, _, hbad⟩
        obtain ⟨g, he, hat⟩ := hbad hlr
        exact ⟨atV g, he, .at_ g _ _ hat, hb⟩
  obtain ⟨S2, F2e, F2p, hT3, hT4⟩ : ∃ (S1 : U.Bs) (fe fp : Int), (∀ W, Below w.heap.size w W → Calls Tryd.prog 12 #[.slice A2 n2 c2] W fun e w' => e = .returned (.tuple #[.string ⟨S1.toArray⟩, .agg #[.int .i64 fe, .int .i64 fp]]) ∧ Below W.heap.size W w') ∧
      (∀ W, Below w.heap.size w W → Calls Tryd.prog 13 #[.slice A2 n2 c2] W fun e w' => ∃ ev, e = .returned (.tuple #[.string ⟨S1.toArray⟩, ev]) ∧ ErrV w' ev fe fp ∧ Below W.heap.size W w') := by
    by_cases hlr : hr = []
    · refine ⟨U.encs hp, 0, -1, fun W hW => ?_, fun W hW => ?_⟩
      · refine (rfrom_calls HH.out HIN.out (HSH.out.below hW) (by omega)).mono ?_
        rintro e w' ⟨hb, hok, _⟩
        exact ⟨hok hlr, hb⟩
      · refine (fromHalves_calls HH.out HIN.out (HSH.out.below hW) (by omega)).mono ?_
        rintro e w' ⟨hb, hok, _⟩
        exact ⟨.nilIface, hok hlr, .nil, hb⟩
    · refine ⟨[], 3, U.hoff hp hp.length, fun W hW => ?_, fun W hW => ?_⟩
      · refine (rfrom_calls HH.out HIN.out (HSH.out.below hW) (by omega)).mono ?_
        rintro e w' ⟨hb, _, hbad⟩
        exact ⟨hbad hlr, hb⟩
      · refine (fromHalves_calls HH.out HIN.out (HSH.out.below hW) (by omega)).mono ?_
        rintro e w' ⟨hb, _, hbad⟩
        obtain ⟨g, he, hat⟩ := hbad hlr
        exact ⟨atV g, he, .at_ g _ _ hat, hb⟩
  have HT1 := Hd.mk hT1
  have HT2 := Hd.mk hT2
  have HT3 := Hd.mk hT3
  have HT4 := Hd.mk hT4
  clear hT1 hT2 hT3 hT4 HL HH HIN HIL HSL HSH
  go_enter Tryd.func3, Tryd.ntmps3
  go_wp2_with fail
  refine (HT1.out _ (Below.refl _ _)).mono ?_
  rintro e w1 ⟨rfl, hb1⟩
  have HB1 := Hd.mk hb1
  clear hb1
  go_wp2_with fail
  have x1 : Below w.heap.size w (w1.alloc (.cells #[.int .i64 F1e, .int .i64 F1p] 26)) := ex_alloc HB1.out _
  have k1 := Blk.new w1 26 #[.int .i64 F1e, .int .i64 F1p]
  refine (HT2.out _ x1).mono ?_
  rintro e w2 ⟨ev1, rfl, he1, hb2⟩
  have HB2 := Hd.mk (bstep x1 hb2)
  have HK1 := Hd.mk (k1.below hb2 (by simp))
  have HE1 := Hd.mk he1
  have hz1 : w1.heap.size < w2.heap.size := HK1.out.lt
  clear x1 k1 he1 hb2
  go_wp2_with fail
  refine (HT3.out _ HB2.out).mono ?_
  rintro e w3 ⟨rfl, hb3⟩
  have HB3 := Hd.mk (bstep HB2.out hb3)
  have HK1' := Hd.mk (HK1.out.below hb3 hz1)
  have HE1' := Hd.mk (HE1.out.below hb3)
  have hz2 := hb3.size
  clear hb3 HK1 HE1
  go_wp2_with fail
  have x3 : Below w3.heap.size w3 (w3.alloc (.cells #[.int .i64 F2e, .int .i64 F2p] 26)) := ex_alloc (Below.refl _ _) _
  have k2 := Blk.new w3 26 #[.int .i64 F2e, .int .i64 F2p]
  refine (HT4.out _ (HB3.out.trans (x3.mono HB3.out.size))).mono ?_
  rintro e w4 ⟨ev2, rfl, he2, hb4⟩
  have hb4' := bstep x3 hb4
  have HB4 := Hd.mk (bstep HB3.out hb4')
  have HK1 := Hd.mk (HK1'.out.below hb4' (by omega))
  have HE1 := Hd.mk (HE1'.out.below hb4')
  have HK2 := Hd.mk (k2.below hb4 (by simp))
  have HE2 := Hd.mk he2
  have hz3 : w3.heap.size < w4.heap.size := HK2.out.lt
  have hz4 : w1.heap.size < w4.heap.size := by omega
  clear x3 k2 he2 hb4 hb4' HK1' HE1'
  have d0 := HK1.out.cell 0
  have d1 := HK1.out.cell 1
  have d2 := HK2.out.cell 0
  have d3 := HK2.out.cell 1
  simp only [List.getElem?_toArray, List.getElem?_cons_zero, List.getElem?_cons_succ] at d0 d1 d2 d3
  go_wp2_with fail
  have s1 : (S1.toArray == S1.toArray) = true := beq_self_eq_true _
  have s2 : (S2.toArray == S2.toArray) = true := beq_self_eq_true _
  refine (is_true HE1.out (HG.out.below HB4.out)).mono ?_
  rintro e w5 ⟨rfl, hb5⟩
  have HB5 := Hd.mk (bstep HB4.out hb5)
  have HK2' := Hd.mk (HK2.out.below hb5 (by omega))
  have HE2' := Hd.mk (HE2.out.below hb5)
  clear d0 d1 d2 d3
  have d2 := HK2'.out.cell 0
  have d3 := HK2'.out.cell 1
  simp only [List.getElem?_toArray, List.getElem?_cons_zero, List.getElem?_cons_succ] at d2 d3
  clear hb5
  go_wp2_with fail
  refine (is_true HE2'.out (HG.out.below HB5.out)).mono ?_
  rintro e w6 ⟨rfl, hb6⟩
  have HB6 := Hd.mk (bstep HB5.out hb6)
  clear hb6
  go_wp2_with fail
  go_ret
  exact ⟨rfl, HB6.out⟩
end Go.Proofs.YtkiigheleoncfaaDoor
