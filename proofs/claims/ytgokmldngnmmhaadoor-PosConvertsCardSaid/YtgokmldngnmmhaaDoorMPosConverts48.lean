/- The walk of the law PosConverts. -/
import Derived.Test.YtgokmldngnmmhaaDoorMPosConverts40
import Derived.Test.YtgokmldngnmmhaaDoorMPosConverts41
import Derived.Test.YtgokmldngnmmhaaDoorMPosConverts5
import Derived.Test.YtgokmldngnmmhaaDoorMPosConverts47
namespace Go.Proofs.YtgokmldngnmmhaaDoor
open Go.RowKit
set_option maxRecDepth 100000
theorem sp_cells {w : World} {g : Nat} {x y : Value} (h : Blk w g 91 #[x, y]) : w.cell? ⟨g, 0, none⟩ = some x ∧ w.cell? ⟨g, 1, none⟩ = some y := by
  have z0 := h.cell 0
  have z1 := h.cell 1
  simp only [List.getElem?_toArray, List.getElem?_cons_zero, List.getElem?_cons_succ] at z0 z1
  exact ⟨z0, z1⟩
section
attribute [local go_sem] Cn.v_eq
set_option maxHeartbeats 8000000 in
theorem posConverts_walk {s : U.Bs} {fr to_ at_ sl sc : Int} {w : World} (hg : Hdl w) (hsm : s.length ≤ maxLen) :
    Calls Tryd.prog 9 #[.string ⟨s.toArray⟩, .int .i64 fr, .int .i64 to_, .int .i64 at_, .agg #[.int .i64 sl, .int .i64 sc]] w fun e w' => e = .returned (.bool true) ∧ Below w.heap.size w w' := by
  have HG := Hd.mk hg
  unfold maxLen at hsm
  clear hg
  by_cases h1 : 400 < s.length
  · have hi : (400 : Int) < (s.length : Int) := by omega
    go_enter Tryd.func9, Tryd.ntmps9
    go_wp2_with fail
    go_ret
    exact ⟨rfl, ex_alloc (Below.refl _ _) _⟩
  have hi : ¬ ((400 : Int) < (s.length : Int)) := by omega
  obtain ⟨rs, rest, hsp⟩ := U.sp_exists s
  have HC := fun w1 => Hd.mk (rcount_calls hsp w1 (by omega))
  have HNEW := fun w1 => Hd.mk (new_calls hsp w1 (by omega))
  by_cases hr : rest = []
  · subst hr
    obtain rfl : s = U.encs rs := by have := hsp.eq; simpa using this
    have HBL : Hd (bl rs ≤ 8000) := ⟨by have : (U.encs rs).length = bl rs := rfl; omega⟩
    have HALL := Hd.mk hsp.all
    have HSB : Hd (Blk (w.alloc (.cells #[.int .i64 sl, .int .i64 sc] 91)) w.heap.size 91 #[.int .i64 sl, .int .i64 sc]) := ⟨Blk.new _ _ _⟩
    clear hsp h1
    go_enter Tryd.func9, Tryd.ntmps9
    go_wp2_with (first
      | (go_at_call 18; refine (HC _).out.mono ?_; rintro e w1 ⟨hb1, he, -⟩; obtain rfl := he rfl; have hx1 := ex_alloc (ex_alloc hb1 (.cells #[.int .i64 (cnt rs).b, .int .i64 (cnt rs).h, .int .i64 (cnt rs).r, .int .i64 (cnt rs).l] 36)) (.cells #[.int .i64 0, .int .i64 (-1)] 25); have HB1 := Hd.mk (bstep (ex_alloc (Below.refl _ _) _) hx1); have HSB1 := Hd.mk (HSB.out.below hx1 HSB.out.lt); clear hb1 he hx1; unfold fltV)
      | (go_at_call 40; refine (HNEW _).out.mono ?_; rintro e w2 ⟨hb2, -, -, h3⟩; obtain ⟨p, t, rfl, hat, hgd, hrr, -, -⟩ := h3 rfl HBL.out; have HB2 := Hd.mk (bstep HB1.out hb2); have HSB2 := Hd.mk (HSB1.out.below hb2 HSB1.out.lt); have HAT := Hd.mk hat; have HGD := Hd.mk hgd; have HRR := Hd.mk hrr; clear hb2 h3 hat hgd hrr))
    refine (rahead_calls (u := fr) (at_ := at_) HALL.out (by have := HBL.out; omega)).mono ?_
    rintro e w3 ⟨hb3, c, k, rfl, hA⟩
    have HA := Hd.mk hA
    have HB3 := Hd.mk (ex_alloc (bstep HB2.out hb3) (.cells #[.int .i64 c.b, .int .i64 c.h, .int .i64 c.r, .int .i64 c.l] 36))
    have HX3 := Hd.mk (bstep hb3 (ex_alloc (Below.refl _ _) (.cells #[.int .i64 c.b, .int .i64 c.h, .int .i64 c.r, .int .i64 c.l] 36)))
    have HAT3 := Hd.mk (HAT.out.below HX3.out)
    have HSB3 := Hd.mk (HSB2.out.below HX3.out HSB2.out.lt)
    clear hb3 hA
    go_wp2_with fail
    generalize w3.alloc (.cells #[.int .i64 c.b, .int .i64 c.h, .int .i64 c.r, .int .i64 c.l] 36) = wa at HB3 HX3 HAT3 HSB3 ⊢
    refine (refIn_calls c to_ _).mono ?_
    rintro e w4 ⟨rfl, hb4⟩
    have HB4 := Hd.mk (bstep HB3.out hb4)
    have HAT4 := Hd.mk (HAT3.out.below hb4)
    have HSB4 := Hd.mk (HSB3.out.below hb4 HSB3.out.lt)
    clear hb4
    obtain ⟨x, ke, hxk⟩ : ∃ x ke : Int, ((to_ < 1 ∨ 3 < to_) → x = 0 ∧ ke = 1) ∧ (¬ (to_ < 1 ∨ 3 < to_) → x = c.of to_ ∧ ke = k) := by
      by_cases h : to_ < 1 ∨ 3 < to_
      · exact ⟨0, 1, fun _ => ⟨rfl, rfl⟩, fun h' => absurd h h'⟩
      · exact ⟨c.of to_, k, fun h' => absurd h' h, fun _ => ⟨rfl, rfl⟩⟩
    have HXK := Hd.mk hxk
    have HCR : Hd (∀ x' er', ConvR fr to_ at_ rs x' er' → x' = x ∧ er' = erV ke) := ⟨by
      rintro x' er' ⟨r1, r2⟩
      by_cases h : to_ < 1 ∨ 3 < to_
      · obtain ⟨a1, a2⟩ := HXK.out.1 h
        obtain ⟨b1, b2⟩ := r1 h
        rw [a1, a2, b1, b2]; exact ⟨rfl, rfl⟩
      · obtain ⟨a1, a2⟩ := HXK.out.2 h
        obtain ⟨c', b1, b2⟩ := r2 h
        obtain ⟨rfl, rfl⟩ := b1.unique HA.out
        rw [a1, a2, b2]; exact ⟨rfl, rfl⟩⟩
    clear hxk
    by_cases hto : to_ < 1
    · obtain ⟨rfl, rfl⟩ := HXK.out.1 (.inl hto)
      go_upto_region 13 with fail
      clear HXK HA
      go_wp2_with fail
      refine (convert_gen (u := fr) (v := to_) (at_ := at_) HAT4.out HGD.out).mono ?_
      rintro e w5 ⟨hb5, x5, er5, rfl, hr5⟩
      rw [HRR.out] at hr5
      obtain ⟨hxe, hee⟩ := HCR.out _ _ hr5
      rw [hxe]
      have HER5 := Hd.mk hee
      have HB5 := Hd.mk (bstep HB4.out hb5)
      have HAT5 := Hd.mk (HAT4.out.below hb5)
      have HSB5 := Hd.mk (HSB4.out.below hb5 HSB4.out.lt)
      clear hb5 hr5 hxe hee
      go_wp2_with fail
      refine (rspot_calls (u := fr) (at_ := at_) HALL.out HBL.out).mono ?_
      rintro e w6 ⟨hb6, l6, c6, k6, rfl, hr6⟩
      have HR6 := Hd.mk hr6
      have hx6 := bstep hb6 (ex_alloc (Below.refl _ _) (.cells #[.int .i64 l6, .int .i64 c6] 91))
      have HB6 := Hd.mk (bstep HB5.out hx6)
      have HAT6 := Hd.mk (HAT5.out.below hx6)
      have HSB6 := Hd.mk (HSB5.out.below hx6 HSB5.out.lt)
      have HX6 : Hd (Blk (w6.alloc (.cells #[.int .i64 l6, .int .i64 c6] 91)) w6.heap.size 91 #[.int .i64 l6, .int .i64 c6]) := ⟨Blk.new _ _ _⟩
      clear hb6 hr6 hx6
      go_wp2_with fail
      generalize w6.alloc (.cells #[.int .i64 l6, .int .i64 c6] 91) = w7 at HB6 HAT6 HSB6 HX6 ⊢
      generalize w6.heap.size = g6 at HX6 ⊢
      refine (spot_gen (u := fr) (at_ := at_) HAT6.out HGD.out).mono ?_
      rintro e w8 ⟨hb8, l8, c8, er8, rfl, hr8⟩
      rw [HRR.out] at hr8
      obtain ⟨rfl, rfl, hee⟩ := hr8.unique HR6.out
      have HER8 := Hd.mk hee
      have hx8 := bstep hb8 (ex_alloc (Below.refl _ _) (.cells #[.int .i64 l8, .int .i64 c8] 91))
      have HB8 := Hd.mk (bstep HB6.out hx8)
      have HAT8 := Hd.mk (HAT6.out.below hx8)
      have HSB8 := Hd.mk (HSB6.out.below hx8 HSB6.out.lt)
      have HX68 := Hd.mk (HX6.out.below hx8 HX6.out.lt)
      have HX8 : Hd (Blk (w8.alloc (.cells #[.int .i64 l8, .int .i64 c8] 91)) w8.heap.size 91 #[.int .i64 l8, .int .i64 c8]) := ⟨Blk.new _ _ _⟩
      have hz := HSB8.out.cell 0
      have hz1 := HSB8.out.cell 1
      have hzl := HSB8.out.lt
      simp only [List.getElem?_toArray, List.getElem?_cons_zero, List.getElem?_cons_succ] at hz hz1
      clear hb8 hr8 hx8 hee
      go_upto_region 16 with fail
      generalize w8.alloc (.cells #[.int .i64 l8, .int .i64 c8] 91) = w9 at HB8 HAT8 HSB8 HX68 HX8 hz hz1 hzl ⊢
      generalize w8.heap.size = g8 at HX8 ⊢
      go_wp2_with fail
      clear hz hz1 hzl
      refine (rplace_calls (u := fr) (n := sl) (col := sc) HALL.out HBL.out).mono ?_
      rintro e w10 ⟨hb10, p10, k10, rfl, hr10⟩
      have HR10 := Hd.mk hr10
      have HB10 := Hd.mk (bstep HB8.out hb10)
      have HAT10 := Hd.mk (HAT8.out.below hb10)
      have HSB10 := Hd.mk (HSB8.out.below hb10 HSB8.out.lt)
      have HX6a := Hd.mk (HX68.out.below hb10 HX68.out.lt)
      have HX8a := Hd.mk (HX8.out.below hb10 HX8.out.lt)
      have hz := HSB10.out.cell 0
      have hz1 := HSB10.out.cell 1
      have hzl := HSB10.out.lt
      simp only [List.getElem?_toArray, List.getElem?_cons_zero, List.getElem?_cons_succ] at hz hz1
      clear hb10 hr10
      go_wp2_with fail
      clear hz hz1 hzl
      refine (place_gen (u := fr) (n := sl) (col := sc) HAT10.out HGD.out).mono ?_
      rintro e w11 ⟨hb11, p11, er11, rfl, hr11⟩
      rw [HRR.out] at hr11
      obtain ⟨rfl, hee⟩ := hr11.unique HR10.out
      have HER11 := Hd.mk hee
      have HB11 := Hd.mk (bstep HB10.out hb11)
      have HX6b := Hd.mk (HX6a.out.below hb11 HX6a.out.lt)
      have HX8b := Hd.mk (HX8a.out.below hb11 HX8a.out.lt)
      clear hb11 hr11 hee
      go_wp2_with fail
      refine (bare_true (by rw [HER5.out]; exact errV_erV _ _) (HG.out.below HB11.out)).mono ?_
      rintro e w12 ⟨rfl, hb12⟩
      have HB12 := Hd.mk (bstep HB11.out hb12)
      have HX6c := Hd.mk (HX6b.out.below hb12 HX6b.out.lt)
      have HX8c := Hd.mk (HX8b.out.below hb12 HX8b.out.lt)
      clear hb12
      go_wp2_with fail
      refine (bare_true (by rw [HER8.out]; exact errV_erV _ _) (HG.out.below HB12.out)).mono ?_
      rintro e w13 ⟨rfl, hb13⟩
      have HB13 := Hd.mk (bstep HB12.out hb13)
      have hx6 := HX6c.out.below hb13 HX6c.out.lt
      have hx8 := HX8c.out.below hb13 HX8c.out.lt
      obtain ⟨y0, y1⟩ := sp_cells hx6
      obtain ⟨z0, z1⟩ := sp_cells hx8
      have hl6 := hx6.lt
      have hl8 := hx8.lt
      have hq := fun w => sp_eql l8 c8 w
      have hqg := fun (op : BinOp) (p q : Operand) (xs ys : Array Value) (w : World) => sp_eqGuard op p q xs ys w
      clear hb13 hx6 hx8
      go_wp2_with fail
      clear y0 y1 z0 z1 hl6 hl8 hq hqg
      refine (bare_true (by rw [HER11.out]; exact errV_erV _ _) (HG.out.below HB13.out)).mono ?_
      rintro e w14 ⟨rfl, hb14⟩
      have HB14 := Hd.mk (bstep HB13.out hb14)
      clear hb14
      go_wp2_with fail
      go_ret
      exact ⟨rfl, HB14.out⟩
    · by_cases hto2 : 3 < to_
      · obtain ⟨rfl, rfl⟩ := HXK.out.1 (.inr hto2)
        go_upto_region 13 with fail
        clear HXK HA
        go_wp2_with fail
        refine (convert_gen (u := fr) (v := to_) (at_ := at_) HAT4.out HGD.out).mono ?_
        rintro e w5 ⟨hb5, x5, er5, rfl, hr5⟩
        rw [HRR.out] at hr5
        obtain ⟨hxe, hee⟩ := HCR.out _ _ hr5
        rw [hxe]
        have HER5 := Hd.mk hee
        have HB5 := Hd.mk (bstep HB4.out hb5)
        have HAT5 := Hd.mk (HAT4.out.below hb5)
        have HSB5 := Hd.mk (HSB4.out.below hb5 HSB4.out.lt)
        clear hb5 hr5 hxe hee
        go_wp2_with fail
        refine (rspot_calls (u := fr) (at_ := at_) HALL.out HBL.out).mono ?_
        rintro e w6 ⟨hb6, l6, c6, k6, rfl, hr6⟩
        have HR6 := Hd.mk hr6
        have hx6 := bstep hb6 (ex_alloc (Below.refl _ _) (.cells #[.int .i64 l6, .int .i64 c6] 91))
        have HB6 := Hd.mk (bstep HB5.out hx6)
        have HAT6 := Hd.mk (HAT5.out.below hx6)
        have HSB6 := Hd.mk (HSB5.out.below hx6 HSB5.out.lt)
        have HX6 : Hd (Blk (w6.alloc (.cells #[.int .i64 l6, .int .i64 c6] 91)) w6.heap.size 91 #[.int .i64 l6, .int .i64 c6]) := ⟨Blk.new _ _ _⟩
        clear hb6 hr6 hx6
        go_wp2_with fail
        generalize w6.alloc (.cells #[.int .i64 l6, .int .i64 c6] 91) = w7 at HB6 HAT6 HSB6 HX6 ⊢
        generalize w6.heap.size = g6 at HX6 ⊢
        refine (spot_gen (u := fr) (at_ := at_) HAT6.out HGD.out).mono ?_
        rintro e w8 ⟨hb8, l8, c8, er8, rfl, hr8⟩
        rw [HRR.out] at hr8
        obtain ⟨rfl, rfl, hee⟩ := hr8.unique HR6.out
        have HER8 := Hd.mk hee
        have hx8 := bstep hb8 (ex_alloc (Below.refl _ _) (.cells #[.int .i64 l8, .int .i64 c8] 91))
        have HB8 := Hd.mk (bstep HB6.out hx8)
        have HAT8 := Hd.mk (HAT6.out.below hx8)
        have HSB8 := Hd.mk (HSB6.out.below hx8 HSB6.out.lt)
        have HX68 := Hd.mk (HX6.out.below hx8 HX6.out.lt)
        have HX8 : Hd (Blk (w8.alloc (.cells #[.int .i64 l8, .int .i64 c8] 91)) w8.heap.size 91 #[.int .i64 l8, .int .i64 c8]) := ⟨Blk.new _ _ _⟩
        have hz := HSB8.out.cell 0
        have hz1 := HSB8.out.cell 1
        have hzl := HSB8.out.lt
        simp only [List.getElem?_toArray, List.getElem?_cons_zero, List.getElem?_cons_succ] at hz hz1
        clear hb8 hr8 hx8 hee
        go_upto_region 16 with fail
        generalize w8.alloc (.cells #[.int .i64 l8, .int .i64 c8] 91) = w9 at HB8 HAT8 HSB8 HX68 HX8 hz hz1 hzl ⊢
        generalize w8.heap.size = g8 at HX8 ⊢
        go_wp2_with fail
        clear hz hz1 hzl
        refine (rplace_calls (u := fr) (n := sl) (col := sc) HALL.out HBL.out).mono ?_
        rintro e w10 ⟨hb10, p10, k10, rfl, hr10⟩
        have HR10 := Hd.mk hr10
        have HB10 := Hd.mk (bstep HB8.out hb10)
        have HAT10 := Hd.mk (HAT8.out.below hb10)
        have HSB10 := Hd.mk (HSB8.out.below hb10 HSB8.out.lt)
        have HX6a := Hd.mk (HX68.out.below hb10 HX68.out.lt)
        have HX8a := Hd.mk (HX8.out.below hb10 HX8.out.lt)
        have hz := HSB10.out.cell 0
        have hz1 := HSB10.out.cell 1
        have hzl := HSB10.out.lt
        simp only [List.getElem?_toArray, List.getElem?_cons_zero, List.getElem?_cons_succ] at hz hz1
        clear hb10 hr10
        go_wp2_with fail
        clear hz hz1 hzl
        refine (place_gen (u := fr) (n := sl) (col := sc) HAT10.out HGD.out).mono ?_
        rintro e w11 ⟨hb11, p11, er11, rfl, hr11⟩
        rw [HRR.out] at hr11
        obtain ⟨rfl, hee⟩ := hr11.unique HR10.out
        have HER11 := Hd.mk hee
        have HB11 := Hd.mk (bstep HB10.out hb11)
        have HX6b := Hd.mk (HX6a.out.below hb11 HX6a.out.lt)
        have HX8b := Hd.mk (HX8a.out.below hb11 HX8a.out.lt)
        clear hb11 hr11 hee
        go_wp2_with fail
        refine (bare_true (by rw [HER5.out]; exact errV_erV _ _) (HG.out.below HB11.out)).mono ?_
        rintro e w12 ⟨rfl, hb12⟩
        have HB12 := Hd.mk (bstep HB11.out hb12)
        have HX6c := Hd.mk (HX6b.out.below hb12 HX6b.out.lt)
        have HX8c := Hd.mk (HX8b.out.below hb12 HX8b.out.lt)
        clear hb12
        go_wp2_with fail
        refine (bare_true (by rw [HER8.out]; exact errV_erV _ _) (HG.out.below HB12.out)).mono ?_
        rintro e w13 ⟨rfl, hb13⟩
        have HB13 := Hd.mk (bstep HB12.out hb13)
        have hx6 := HX6c.out.below hb13 HX6c.out.lt
        have hx8 := HX8c.out.below hb13 HX8c.out.lt
        obtain ⟨y0, y1⟩ := sp_cells hx6
        obtain ⟨z0, z1⟩ := sp_cells hx8
        have hl6 := hx6.lt
        have hl8 := hx8.lt
        have hq := fun w => sp_eql l8 c8 w
        have hqg := fun (op : BinOp) (p q : Operand) (xs ys : Array Value) (w : World) => sp_eqGuard op p q xs ys w
        clear hb13 hx6 hx8
        go_wp2_with fail
        clear y0 y1 z0 z1 hl6 hl8 hq hqg
        refine (bare_true (by rw [HER11.out]; exact errV_erV _ _) (HG.out.below HB13.out)).mono ?_
        rintro e w14 ⟨rfl, hb14⟩
        have HB14 := Hd.mk (bstep HB13.out hb14)
        clear hb14
        go_wp2_with fail
        go_ret
        exact ⟨rfl, HB14.out⟩
      · obtain ⟨hx, rfl⟩ := HXK.out.2 (by omega)
        rw [← hx]
        clear hx
        go_upto_region 13 with fail
        clear HXK HA
        go_wp2_with fail
        refine (convert_gen (u := fr) (v := to_) (at_ := at_) HAT4.out HGD.out).mono ?_
        rintro e w5 ⟨hb5, x5, er5, rfl, hr5⟩
        rw [HRR.out] at hr5
        obtain ⟨hxe, hee⟩ := HCR.out _ _ hr5
        rw [hxe]
        have HER5 := Hd.mk hee
        have HB5 := Hd.mk (bstep HB4.out hb5)
        have HAT5 := Hd.mk (HAT4.out.below hb5)
        have HSB5 := Hd.mk (HSB4.out.below hb5 HSB4.out.lt)
        clear hb5 hr5 hxe hee
        go_wp2_with fail
        refine (rspot_calls (u := fr) (at_ := at_) HALL.out HBL.out).mono ?_
        rintro e w6 ⟨hb6, l6, c6, k6, rfl, hr6⟩
        have HR6 := Hd.mk hr6
        have hx6 := bstep hb6 (ex_alloc (Below.refl _ _) (.cells #[.int .i64 l6, .int .i64 c6] 91))
        have HB6 := Hd.mk (bstep HB5.out hx6)
        have HAT6 := Hd.mk (HAT5.out.below hx6)
        have HSB6 := Hd.mk (HSB5.out.below hx6 HSB5.out.lt)
        have HX6 : Hd (Blk (w6.alloc (.cells #[.int .i64 l6, .int .i64 c6] 91)) w6.heap.size 91 #[.int .i64 l6, .int .i64 c6]) := ⟨Blk.new _ _ _⟩
        clear hb6 hr6 hx6
        go_wp2_with fail
        generalize w6.alloc (.cells #[.int .i64 l6, .int .i64 c6] 91) = w7 at HB6 HAT6 HSB6 HX6 ⊢
        generalize w6.heap.size = g6 at HX6 ⊢
        refine (spot_gen (u := fr) (at_ := at_) HAT6.out HGD.out).mono ?_
        rintro e w8 ⟨hb8, l8, c8, er8, rfl, hr8⟩
        rw [HRR.out] at hr8
        obtain ⟨rfl, rfl, hee⟩ := hr8.unique HR6.out
        have HER8 := Hd.mk hee
        have hx8 := bstep hb8 (ex_alloc (Below.refl _ _) (.cells #[.int .i64 l8, .int .i64 c8] 91))
        have HB8 := Hd.mk (bstep HB6.out hx8)
        have HAT8 := Hd.mk (HAT6.out.below hx8)
        have HSB8 := Hd.mk (HSB6.out.below hx8 HSB6.out.lt)
        have HX68 := Hd.mk (HX6.out.below hx8 HX6.out.lt)
        have HX8 : Hd (Blk (w8.alloc (.cells #[.int .i64 l8, .int .i64 c8] 91)) w8.heap.size 91 #[.int .i64 l8, .int .i64 c8]) := ⟨Blk.new _ _ _⟩
        have hz := HSB8.out.cell 0
        have hz1 := HSB8.out.cell 1
        have hzl := HSB8.out.lt
        simp only [List.getElem?_toArray, List.getElem?_cons_zero, List.getElem?_cons_succ] at hz hz1
        clear hb8 hr8 hx8 hee
        go_upto_region 16 with fail
        generalize w8.alloc (.cells #[.int .i64 l8, .int .i64 c8] 91) = w9 at HB8 HAT8 HSB8 HX68 HX8 hz hz1 hzl ⊢
        generalize w8.heap.size = g8 at HX8 ⊢
        go_wp2_with fail
        clear hz hz1 hzl
        refine (rplace_calls (u := fr) (n := sl) (col := sc) HALL.out HBL.out).mono ?_
        rintro e w10 ⟨hb10, p10, k10, rfl, hr10⟩
        have HR10 := Hd.mk hr10
        have HB10 := Hd.mk (bstep HB8.out hb10)
        have HAT10 := Hd.mk (HAT8.out.below hb10)
        have HSB10 := Hd.mk (HSB8.out.below hb10 HSB8.out.lt)
        have HX6a := Hd.mk (HX68.out.below hb10 HX68.out.lt)
        have HX8a := Hd.mk (HX8.out.below hb10 HX8.out.lt)
        have hz := HSB10.out.cell 0
        have hz1 := HSB10.out.cell 1
        have hzl := HSB10.out.lt
        simp only [List.getElem?_toArray, List.getElem?_cons_zero, List.getElem?_cons_succ] at hz hz1
        clear hb10 hr10
        go_wp2_with fail
        clear hz hz1 hzl
        refine (place_gen (u := fr) (n := sl) (col := sc) HAT10.out HGD.out).mono ?_
        rintro e w11 ⟨hb11, p11, er11, rfl, hr11⟩
        rw [HRR.out] at hr11
        obtain ⟨rfl, hee⟩ := hr11.unique HR10.out
        have HER11 := Hd.mk hee
        have HB11 := Hd.mk (bstep HB10.out hb11)
        have HX6b := Hd.mk (HX6a.out.below hb11 HX6a.out.lt)
        have HX8b := Hd.mk (HX8a.out.below hb11 HX8a.out.lt)
        clear hb11 hr11 hee
        go_wp2_with fail
        refine (bare_true (by rw [HER5.out]; exact errV_erV _ _) (HG.out.below HB11.out)).mono ?_
        rintro e w12 ⟨rfl, hb12⟩
        have HB12 := Hd.mk (bstep HB11.out hb12)
        have HX6c := Hd.mk (HX6b.out.below hb12 HX6b.out.lt)
        have HX8c := Hd.mk (HX8b.out.below hb12 HX8b.out.lt)
        clear hb12
        go_wp2_with fail
        refine (bare_true (by rw [HER8.out]; exact errV_erV _ _) (HG.out.below HB12.out)).mono ?_
        rintro e w13 ⟨rfl, hb13⟩
        have HB13 := Hd.mk (bstep HB12.out hb13)
        have hx6 := HX6c.out.below hb13 HX6c.out.lt
        have hx8 := HX8c.out.below hb13 HX8c.out.lt
        obtain ⟨y0, y1⟩ := sp_cells hx6
        obtain ⟨z0, z1⟩ := sp_cells hx8
        have hl6 := hx6.lt
        have hl8 := hx8.lt
        have hq := fun w => sp_eql l8 c8 w
        have hqg := fun (op : BinOp) (p q : Operand) (xs ys : Array Value) (w : World) => sp_eqGuard op p q xs ys w
        clear hb13 hx6 hx8
        go_wp2_with fail
        clear y0 y1 z0 z1 hl6 hl8 hq hqg
        refine (bare_true (by rw [HER11.out]; exact errV_erV _ _) (HG.out.below HB13.out)).mono ?_
        rintro e w14 ⟨rfl, hb14⟩
        have HB14 := Hd.mk (bstep HB13.out hb14)
        clear hb14
        go_wp2_with fail
        go_ret
        exact ⟨rfl, HB14.out⟩
  · have HNE := Hd.mk hr
    clear hsp hr h1
    go_enter Tryd.func9, Tryd.ntmps9
    go_wp2_with (first
      | (go_at_call 18; refine (HC _).out.mono ?_; rintro e w1 ⟨hb1, -, he⟩; obtain rfl := he HNE.out; have HB1 := Hd.mk (bstep (ex_alloc (Below.refl _ _) _) hb1); clear hb1 he; unfold fltV))
    go_ret
    exact ⟨rfl, ex_alloc (ex_alloc HB1.out _) _⟩
end
end Go.Proofs.YtgokmldngnmmhaaDoor
