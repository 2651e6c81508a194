/- Several texts of the proof, one behind the other: ShALF, ShALR, ShapeAlikeW. -/
import Derived.Test.YtgokmldngnmmhaaDoorMShapeAlike48
import Derived.Test.YtgokmldngnmmhaaDoorMShapeAlike47
import Derived.Test.YtgokmldngnmmhaaDoorMShapeAlike36
import Derived.Test.YtgokmldngnmmhaaDoorMShapeAlike43
/- The walk of the law ShapeAlike, fitted. -/
namespace Go.Proofs.YtgokmldngnmmhaaDoor
open Go.RowKit
set_option maxRecDepth 100000
section
attribute [local go_sem] Cn.v_eq
set_option maxHeartbeats 16000000 in
theorem shapeAlike_fit {s : U.Bs} {unit : Int} {l : List PT} {v : Value} {n : Nat} {w : World} (hg : Hdl w) (hsl : Sl w 3 v n (opv l)) (hsm : s.length ≤ maxLen) :
    Calls Tryd.prog 11 #[.int .i64 unit, .string ⟨s.toArray⟩, v, .bool false] w fun e w' => e = .returned (.bool true) ∧ Below w.heap.size w w' := by
  have HG := Hd.mk hg
  have HSL := Hd.mk hsl
  have hln : l.length = n := by have := hsl.len; rw [opv_length] at this; omega
  have HLN := Hd.mk hln
  have HD := fun w1 => Hd.mk (document_calls w1 hsm)
  obtain ⟨A, cc, rfl, -⟩ := hsl
  clear hg hsm hln
  go_enter Tryd.func11, Tryd.ntmps11
  go_wp2_with fail
  refine (shaped_calls HG.out).mono ?_
  rintro e w1 ⟨rfl, hb1⟩
  have HB1 := Hd.mk hb1
  clear hb1
  go_wp2_with fail
  refine (pick_calls unit 3 (by omega) _).mono ?_
  rintro e w1' ⟨k0, rfl, hk1, hk2, rfl⟩
  have hw0 : IntKind.i64.wrap (1 + k0) = 1 + k0 := by rw [IntKind.wrap_i64] <;> omega
  go_wp2_with fail
  generalize hu : 1 + k0 = u at *
  have hu3 : 1 ≤ u ∧ u ≤ 3 := by omega
  clear hk1 hk2 hw0 hu
  refine (HD _).out.mono ?_
  rintro e w2 ⟨hb2, hd⟩
  have HB2 := Hd.mk (bstep HB1.out hb2)
  clear hb2
  rcases hd with rfl | ⟨p, t, rfl, hat, hgd, rfl, hl⟩
  · go_wp2_with fail
    first | go_quiet (fail) | skip
    go_wp2_with fail
    go_ret
    exact ⟨rfl, by first | exact HB2.out | exact ex_drewN _ HB2.out⟩
  by_cases hn : 60 < n
  · have hi : (60 : Int) < (n : Int) := by omega
    go_wp2_with fail
    go_ret
    exact ⟨rfl, HB2.out⟩
  have hi : ¬ ((60 : Int) < (n : Int)) := by omega
  have HAT := Hd.mk hat
  have HGD := Hd.mk hgd
  have HL : Hd (bl t.runes ≤ 1500) := ⟨hl⟩
  have HU := Hd.mk hu3
  have HSL2 := Hd.mk (HSL.out.below HB2.out)
  have HN61 : Hd (n ≤ 61) := ⟨by omega⟩
  have HNEW := fun w1 => Hd.mk (shnew_calls (U.sp_encs hgd.all) (u := u) (by have h : bl t.runes ≤ 1500 := hl; show bl t.runes ≤ _; omega) w1)
  clear hat hgd hl hn hu3 HSL
  · go_wp2_with fail
    refine (counts_calls HAT.out).mono ?_
    rintro e w3 ⟨rfl, hb3⟩
    have HB3 := Hd.mk (bstep HB2.out hb3)
    have HAT3 := Hd.mk (HAT.out.below hb3)
    have HSL3 := Hd.mk (HSL2.out.below hb3)
    clear hb3
    go_wp2_with fail
    refine Calls.mono (by have := in_calls (cnt t.runes) u w3; rw [Cn.v_eq] at this; exact this) ?_
    rintro e w4 ⟨rfl, hb4⟩
    have HB4 := Hd.mk (bstep HB3.out hb4)
    have HAT4 := Hd.mk (HAT3.out.below hb4)
    have HSL4 := Hd.mk (HSL3.out.below hb4)
    clear hb4
    have HTL : Hd ((0 : Int) ≤ (cnt t.runes).of u ∧ (cnt t.runes).of u ≤ 1000000) := ⟨by
      have h1 := of_nn t.runes u
      have h2 := of_le (rs := t.runes) (n := bl t.runes) (bl_len t.runes) u
      have := HL.out
      omega⟩
    go_wp2_with fail
    refine (kfit_calls HSL4.out HTL.out).mono ?_
    rintro e w5 ⟨hb5, v5, L, rfl, hs5, -, -, -, hl5⟩
    have HB5 := Hd.mk (bstep HB4.out hb5)
    have HAT5 := Hd.mk (HAT4.out.below hb5)
    have HSL5 := Hd.mk hs5
    have HN5 := Hd.mk hl5
    obtain ⟨A5, c5, rfl, -⟩ := hs5
    clear hb5 hl5
    generalize hn5 : L.length = n5 at HSL5 HN5 ⊢
    have HLN5 := Hd.mk hn5
    clear hn5
    go_wp2_with fail
    go_loopw [10] (fun i wr => ∃ k : Nat, k ≤ n5 ∧ i = .int .i64 (k : Int) ∧ (∀ p ∈ L.take k, p.put.length ≤ 150) ∧ Below w5.heap.size w5 wr) (fun i _ => n5 - (intOf i).toNat)
    case atStart => exact ⟨0, by omega, rfl, (fun p hp => by simp at hp), Below.refl _ _⟩
    case round =>
      obtain ⟨k, hk, rfl, hall, hbel⟩ := hrel
      have HAL := Hd.mk hall
      have HBR := Hd.mk hbel
      clear hall
      by_cases hkn : k < n5
      · have hkl : k < L.length := by have := HLN5.out; omega
        have hkb : k ≤ 100 := by have := HN5.out; omega
        obtain ⟨b0, o0, c0, hv, hlt, y0, y1, y2⟩ := (HSL5.out.below hbel).part hkn hkl
        cases hv
        have HNX : Hd (L[k].put.length ≤ 150 → ∀ p ∈ L.take (k + 1), p.put.length ≤ 150) := ⟨fun h p hp => by
          rw [List.take_succ_eq_append_getElem hkl, List.mem_append] at hp
          rcases hp with hp | hp
          · exact HAL.out p hp
          · obtain rfl := List.mem_singleton.1 hp
            exact h⟩
        generalize L[k] = q at *
        obtain ⟨x, y, z⟩ := q
        dsimp only at y0 y1 y2
        by_cases hz : 150 < z.length
        · have hz1 : (150 : Int) < (z.length : Int) := by omega
          go_wp2_with fail
          go_ret
          exact ⟨rfl, bstep HB5.out HBR.out⟩
        · have hz1 : ¬ ((150 : Int) < (z.length : Int)) := by omega
          go_wp2_with fail
          exact ⟨⟨k + 1, by omega, by go_num, HNX.out (by show z.length ≤ 150; omega), HBR.out⟩, by simp only [intOf]; omega⟩
      · obtain rfl : k = n5 := by omega
        have HPT : Hd (∀ p ∈ L, p.put.length ≤ 150) := ⟨by have := HAL.out; rwa [← HLN5.out, List.take_length] at this⟩
        have HPL : Hd (plen L ≤ 9200) := ⟨by have := plen_150 HPT.out; have := HLN5.out; have := HN5.out; omega⟩
        have HP : Hd (∀ p ∈ L, p.put.length ≤ 35184372087808) := ⟨fun p hp => by have := HPT.out p hp; omega⟩
        have HBZ := Hd.mk (bstep HB5.out hbel)
        have HATR := Hd.mk (HAT5.out.below hbel)
        have HSLR := Hd.mk (HSL5.out.below hbel)
        clear hbel hkn
        go_wp2_with fail
        refine (HNEW _).out.mono ?_
        rintro e wn ⟨hbn, -, -, -, hnew⟩
        obtain ⟨f, rfl, hf, hsf⟩ := hnew HU.out rfl (by have := HL.out; omega)
        have HBN := Hd.mk (bstep HBZ.out hbn)
        have HATN := Hd.mk (HATR.out.below hbn)
        have HSLN := Hd.mk (HSLR.out.below hbn)
        have HSF := Hd.mk hsf
        have HF : Hd (wr.heap.size ≤ f) := ⟨hf⟩
        have HBW := Hd.mk hbn
        clear hbn hnew hf hsf
        go_wp2_with fail
        refine (shap_calls HSF.out (HG.out.below HBN.out) HSLN.out (by have := HPL.out; omega) (by have := HN5.out; omega)).mono ?_
        rintro e wa ⟨hoa, hra⟩
        have hba : Below wr.heap.size wr wa := HBW.out.trans (hoa.below HBW.out.size (fun j hj e => by have := HF.out; omega))
        have HBA := Hd.mk (bstep HBZ.out hba)
        have HATA := Hd.mk (HATR.out.below hba)
        have HSLA := Hd.mk (HSLR.out.below hba)
        clear hoa hba
        rcases hra with ⟨ke, hke, rfl, hsa, hkt⟩ | ⟨O, X, hX, hO1, hO2, htu, hT, hrest⟩
        · have HSA := Hd.mk hsa
          have HKE := Hd.mk (And.intro hke hkt)
          clear hsa hke hkt
          go_wp2_with fail
          refine (to_calls (u := u) HATA.out HGD.out rfl (HG.out.below HBA.out) HSLA.out HP.out (by have := HN5.out; omega)).mono ?_
          rintro e wt ⟨hbt, vt, ot, kt, rfl, hst, hrt⟩
          obtain rfl := HKE.out.2 _ _ hrt
          have HBT := Hd.mk (bstep HBA.out hbt)
          have HSB := Hd.mk (HSA.out.below hbt)
          rw [erV_errno HKE.out.1]
          unfold errno
          obtain ⟨At, ct, rfl, -⟩ := hst
          clear hbt hrt
          go_wp2_with fail
          refine (tell_calls (.no kt) (HG.out.below HBT.out)).mono ?_
          rintro e wy ⟨rfl, hby⟩
          have HBY := Hd.mk (bstep HBT.out hby)
          have HSC := Hd.mk (HSB.out.below hby)
          clear hby
          go_wp2_with fail
          refine (tell_calls (.no kt) (HG.out.below HBY.out)).mono ?_
          rintro e wx ⟨rfl, hbx⟩
          have HBX := Hd.mk (bstep HBY.out hbx)
          have HSD := Hd.mk (HSC.out.below hbx)
          clear hbx
          go_wp2_with fail
          refine (shtext_calls HSD.out).mono ?_
          rintro e wv ⟨rfl, hbv⟩
          have HBV := Hd.mk (bstep HBX.out hbv)
          clear hbv
          go_wp2_with fail
          go_ret
          exact ⟨rfl, HBV.out⟩
        · have HO := Hd.mk (And.intro hX (And.intro hO1 (And.intro hO2 (And.intro htu hT))))
          have HOB : Hd (OpB O X t.runes) := ⟨⟨hX, by have := HL.out; omega, by have := HPL.out; omega⟩⟩
          have HEN : Hd ((U.encs (rap X t.runes)).length = bl (rap X t.runes)) := ⟨rfl⟩
          clear hX hO1 hO2 htu hT
          obtain ⟨ev, R', rfl, hsa, hcase⟩ : ∃ ev R', e = .returned ev ∧ ShS wa f u R' ∧ ((8000 < bl (rap X t.runes) ∧ ev = errno 12 ∧ R' = t.runes) ∨ (bl (rap X t.runes) ≤ 8000 ∧ ev = .nilIface ∧ R' = rap X t.runes)) := by
            rcases hrest with ⟨h1, h2, h3⟩ | ⟨h1, h2, h3⟩
            · exact ⟨_, _, h2, h3, .inl ⟨h1, rfl, rfl⟩⟩
            · exact ⟨_, _, h2, h3, .inr ⟨h1, rfl, rfl⟩⟩
          have HSA := Hd.mk hsa
          have HCASE := Hd.mk hcase
          clear hsa hcase hrest
          go_wp2_with fail
          refine (to_calls (u := u) HATA.out HGD.out rfl (HG.out.below HBA.out) HSLA.out HP.out (by have := HN5.out; omega)).mono ?_
          rintro e wt ⟨hbt, vt, ot, kt, rfl, hst, hrt⟩
          obtain ⟨rfl, rfl⟩ := HO.out.2.2.2.1 _ _ hrt
          rw [show erV 0 = Value.nilIface from rfl]
          have HBT := Hd.mk (bstep HBA.out hbt)
          have HATT := Hd.mk (HATA.out.below hbt)
          have HSLT := Hd.mk (HSLA.out.below hbt)
          have HSB := Hd.mk (HSA.out.below hbt)
          have HST := Hd.mk hst
          obtain ⟨At, ct, rfl, -⟩ := hst
          clear hbt hrt
          go_wp2_with fail
          refine (kapply_calls (HG.out.below HBT.out) HST.out HOB.out HGD.out.all).mono ?_
          rintro e wp ⟨rfl, hbp⟩
          have HBP := Hd.mk (bstep HBT.out hbp)
          have HATP := Hd.mk (HATT.out.below hbp)
          have HSLP := Hd.mk (HSLT.out.below hbp)
          have HSC' := Hd.mk (HSB.out.below hbp)
          have HSTP := Hd.mk (HST.out.below hbp)
          clear hbp
          go_wp2_with fail
          refine (from_calls (u := u) HATP.out HGD.out rfl (HG.out.below HBP.out) HSTP.out (fun p hp => by have h1 := plen_mem' hp; have h2 := HOB.out.p; omega) (by have h1 := HO.out.2.2.1; have h2 := HLN5.out; have h3 := HN5.out; omega)).mono ?_
          rintro e wq ⟨hbq, vq, oq, kq, rfl, hsq, hrq⟩
          obtain ⟨rfl, rfl⟩ := tnR_back HU.out HO.out.2.2.2.2 hrq
          rw [show erV 0 = Value.nilIface from rfl]
          have HBQ := Hd.mk (bstep HBP.out hbq)
          have HSLQ := Hd.mk (HSLP.out.below hbq)
          have HSD' := Hd.mk (HSC'.out.below hbq)
          rw [HLN5.out] at hsq
          have HSQ := Hd.mk hsq
          obtain ⟨Aq, cq, rfl, -⟩ := hsq
          clear hbq hrq
          go_wp2_with fail
          refine (same_calls HSQ.out HSLQ.out).mono ?_
          rintro e ws ⟨rfl, hbs⟩
          have HBS := Hd.mk (bstep HBQ.out hbs)
          have HSE := Hd.mk (HSD'.out.below hbs)
          clear hbs
          rcases HCASE.out with ⟨hov, rfl, hRR⟩ | ⟨hov, rfl, hRR⟩
          · have hi8 : (8000 : Int) < ((U.encs (rap X t.runes)).length : Int) := by have := HEN.out; omega
            rw [hRR] at HSE
            clear hov HCASE hRR
            unfold errno
            go_wp2_with fail
            refine (tell_calls (.no 12) (HG.out.below HBS.out)).mono ?_
            rintro e wy ⟨rfl, hby⟩
            have HBY := Hd.mk (bstep HBS.out hby)
            have HSC := Hd.mk (HSE.out.below hby)
            clear hby
            go_wp2_with fail
            refine (shtext_calls HSC.out).mono ?_
            rintro e wv ⟨rfl, hbv⟩
            have HBV := Hd.mk (bstep HBY.out hbv)
            clear hbv
            go_wp2_with fail
            go_ret
            exact ⟨rfl, HBV.out⟩
          · have hi8 : ¬ ((8000 : Int) < ((U.encs (rap X t.runes)).length : Int)) := by have := HEN.out; omega
            rw [hRR] at HSE
            clear hov HCASE hRR
            go_wp2_with fail
            refine (shtext_calls HSE.out).mono ?_
            rintro e wv ⟨rfl, hbv⟩
            have HBV := Hd.mk (bstep HBS.out hbv)
            clear hbv
            go_wp2_with fail
            go_ret
            exact ⟨rfl, HBV.out⟩
end
end Go.Proofs.YtgokmldngnmmhaaDoor
/- The walk of the law ShapeAlike, raw. -/
namespace Go.Proofs.YtgokmldngnmmhaaDoor
open Go.RowKit
set_option maxRecDepth 100000
section
attribute [local go_sem] Cn.v_eq
set_option maxHeartbeats 16000000 in
theorem shapeAlike_raw {s : U.Bs} {unit : Int} {l : List PT} {v : Value} {n : Nat} {w : World} (hg : Hdl w) (hsl : Sl w 3 v n (opv l)) (hsm : s.length ≤ maxLen) :
    Calls Tryd.prog 11 #[.int .i64 unit, .string ⟨s.toArray⟩, v, .bool true] w fun e w' => e = .returned (.bool true) ∧ Below w.heap.size w w' := by
  have HG := Hd.mk hg
  have HSL := Hd.mk hsl
  have hln : l.length = n := by have := hsl.len; rw [opv_length] at this; omega
  have HLN := Hd.mk hln
  have HD := fun w1 => Hd.mk (document_calls w1 hsm)
  obtain ⟨A, cc, rfl, -⟩ := hsl
  clear hg hsm hln
  go_enter Tryd.func11, Tryd.ntmps11
  go_wp2_with fail
  refine (shaped_calls HG.out).mono ?_
  rintro e w1 ⟨rfl, hb1⟩
  have HB1 := Hd.mk hb1
  clear hb1
  go_wp2_with fail
  refine (pick_calls unit 3 (by omega) _).mono ?_
  rintro e w1' ⟨k0, rfl, hk1, hk2, rfl⟩
  have hw0 : IntKind.i64.wrap (1 + k0) = 1 + k0 := by rw [IntKind.wrap_i64] <;> omega
  go_wp2_with fail
  generalize hu : 1 + k0 = u at *
  have hu3 : 1 ≤ u ∧ u ≤ 3 := by omega
  clear hk1 hk2 hw0 hu
  refine (HD _).out.mono ?_
  rintro e w2 ⟨hb2, hd⟩
  have HB2 := Hd.mk (bstep HB1.out hb2)
  clear hb2
  rcases hd with rfl | ⟨p, t, rfl, hat, hgd, rfl, hl⟩
  · go_wp2_with fail
    first | go_quiet (fail) | skip
    go_wp2_with fail
    go_ret
    exact ⟨rfl, by first | exact HB2.out | exact ex_drewN _ HB2.out⟩
  by_cases hn : 60 < n
  · have hi : (60 : Int) < (n : Int) := by omega
    go_wp2_with fail
    go_ret
    exact ⟨rfl, HB2.out⟩
  have hi : ¬ ((60 : Int) < (n : Int)) := by omega
  have HAT := Hd.mk hat
  have HGD := Hd.mk hgd
  have HL : Hd (bl t.runes ≤ 1500) := ⟨hl⟩
  have HU := Hd.mk hu3
  have HSL2 := Hd.mk (HSL.out.below HB2.out)
  have HN61 : Hd (n ≤ 61) := ⟨by omega⟩
  have HNEW := fun w1 => Hd.mk (shnew_calls (U.sp_encs hgd.all) (u := u) (by have h : bl t.runes ≤ 1500 := hl; show bl t.runes ≤ _; omega) w1)
  clear hat hgd hl hn hu3 HSL
  · go_wp2_with fail
    go_loopw [10] (fun i wr => ∃ k : Nat, k ≤ n ∧ i = .int .i64 (k : Int) ∧ (∀ p ∈ l.take k, p.put.length ≤ 150) ∧ Below w2.heap.size w2 wr) (fun i _ => n - (intOf i).toNat)
    case atStart => exact ⟨0, by omega, rfl, (fun p hp => by simp at hp), Below.refl _ _⟩
    case round =>
      obtain ⟨k, hk, rfl, hall, hbel⟩ := hrel
      have HAL := Hd.mk hall
      have HBR := Hd.mk hbel
      clear hall
      by_cases hkn : k < n
      · have hkl : k < l.length := by have := HLN.out; omega
        have hkb : k ≤ 100 := by have := HN61.out; omega
        obtain ⟨b0, o0, c0, hv, hlt, y0, y1, y2⟩ := (HSL2.out.below hbel).part hkn hkl
        cases hv
        have HNX : Hd (l[k].put.length ≤ 150 → ∀ p ∈ l.take (k + 1), p.put.length ≤ 150) := ⟨fun h p hp => by
          rw [List.take_succ_eq_append_getElem hkl, List.mem_append] at hp
          rcases hp with hp | hp
          · exact HAL.out p hp
          · obtain rfl := List.mem_singleton.1 hp
            exact h⟩
        generalize l[k] = q at *
        obtain ⟨x, y, z⟩ := q
        dsimp only at y0 y1 y2
        by_cases hz : 150 < z.length
        · have hz1 : (150 : Int) < (z.length : Int) := by omega
          go_wp2_with fail
          go_ret
          exact ⟨rfl, bstep HB2.out HBR.out⟩
        · have hz1 : ¬ ((150 : Int) < (z.length : Int)) := by omega
          go_wp2_with fail
          exact ⟨⟨k + 1, by omega, by go_num, HNX.out (by show z.length ≤ 150; omega), HBR.out⟩, by simp only [intOf]; omega⟩
      · obtain rfl : k = n := by omega
        have HPT : Hd (∀ p ∈ l, p.put.length ≤ 150) := ⟨by have := HAL.out; rwa [← HLN.out, List.take_length] at this⟩
        have HPL : Hd (plen l ≤ 9200) := ⟨by have := plen_150 HPT.out; have := HLN.out; have := HN61.out; omega⟩
        have HP : Hd (∀ p ∈ l, p.put.length ≤ 35184372087808) := ⟨fun p hp => by have := HPT.out p hp; omega⟩
        have HBZ := Hd.mk (bstep HB2.out hbel)
        have HATR := Hd.mk (HAT.out.below hbel)
        have HSLR := Hd.mk (HSL2.out.below hbel)
        clear hbel hkn
        go_wp2_with fail
        refine (HNEW _).out.mono ?_
        rintro e wn ⟨hbn, -, -, -, hnew⟩
        obtain ⟨f, rfl, hf, hsf⟩ := hnew HU.out rfl (by have := HL.out; omega)
        have HBN := Hd.mk (bstep HBZ.out hbn)
        have HATN := Hd.mk (HATR.out.below hbn)
        have HSLN := Hd.mk (HSLR.out.below hbn)
        have HSF := Hd.mk hsf
        have HF : Hd (wr.heap.size ≤ f) := ⟨hf⟩
        have HBW := Hd.mk hbn
        clear hbn hnew hf hsf
        go_wp2_with fail
        refine (shap_calls HSF.out (HG.out.below HBN.out) HSLN.out (by have := HPL.out; omega) (by have := HN61.out; omega)).mono ?_
        rintro e wa ⟨hoa, hra⟩
        have hba : Below wr.heap.size wr wa := HBW.out.trans (hoa.below HBW.out.size (fun j hj e => by have := HF.out; omega))
        have HBA := Hd.mk (bstep HBZ.out hba)
        have HATA := Hd.mk (HATR.out.below hba)
        have HSLA := Hd.mk (HSLR.out.below hba)
        clear hoa hba
        rcases hra with ⟨ke, hke, rfl, hsa, hkt⟩ | ⟨O, X, hX, hO1, hO2, htu, hT, hrest⟩
        · have HSA := Hd.mk hsa
          have HKE := Hd.mk (And.intro hke hkt)
          clear hsa hke hkt
          go_wp2_with fail
          refine (to_calls (u := u) HATA.out HGD.out rfl (HG.out.below HBA.out) HSLA.out HP.out (by have := HN61.out; omega)).mono ?_
          rintro e wt ⟨hbt, vt, ot, kt, rfl, hst, hrt⟩
          obtain rfl := HKE.out.2 _ _ hrt
          have HBT := Hd.mk (bstep HBA.out hbt)
          have HSB := Hd.mk (HSA.out.below hbt)
          rw [erV_errno HKE.out.1]
          unfold errno
          obtain ⟨At, ct, rfl, -⟩ := hst
          clear hbt hrt
          go_wp2_with fail
          refine (tell_calls (.no kt) (HG.out.below HBT.out)).mono ?_
          rintro e wy ⟨rfl, hby⟩
          have HBY := Hd.mk (bstep HBT.out hby)
          have HSC := Hd.mk (HSB.out.below hby)
          clear hby
          go_wp2_with fail
          refine (tell_calls (.no kt) (HG.out.below HBY.out)).mono ?_
          rintro e wx ⟨rfl, hbx⟩
          have HBX := Hd.mk (bstep HBY.out hbx)
          have HSD := Hd.mk (HSC.out.below hbx)
          clear hbx
          go_wp2_with fail
          refine (shtext_calls HSD.out).mono ?_
          rintro e wv ⟨rfl, hbv⟩
          have HBV := Hd.mk (bstep HBX.out hbv)
          clear hbv
          go_wp2_with fail
          go_ret
          exact ⟨rfl, HBV.out⟩
        · have HO := Hd.mk (And.intro hX (And.intro hO1 (And.intro hO2 (And.intro htu hT))))
          have HOB : Hd (OpB O X t.runes) := ⟨⟨hX, by have := HL.out; omega, by have := HPL.out; omega⟩⟩
          have HEN : Hd ((U.encs (rap X t.runes)).length = bl (rap X t.runes)) := ⟨rfl⟩
          clear hX hO1 hO2 htu hT
          obtain ⟨ev, R', rfl, hsa, hcase⟩ : ∃ ev R', e = .returned ev ∧ ShS wa f u R' ∧ ((8000 < bl (rap X t.runes) ∧ ev = errno 12 ∧ R' = t.runes) ∨ (bl (rap X t.runes) ≤ 8000 ∧ ev = .nilIface ∧ R' = rap X t.runes)) := by
            rcases hrest with ⟨h1, h2, h3⟩ | ⟨h1, h2, h3⟩
            · exact ⟨_, _, h2, h3, .inl ⟨h1, rfl, rfl⟩⟩
            · exact ⟨_, _, h2, h3, .inr ⟨h1, rfl, rfl⟩⟩
          have HSA := Hd.mk hsa
          have HCASE := Hd.mk hcase
          clear hsa hcase hrest
          go_wp2_with fail
          refine (to_calls (u := u) HATA.out HGD.out rfl (HG.out.below HBA.out) HSLA.out HP.out (by have := HN61.out; omega)).mono ?_
          rintro e wt ⟨hbt, vt, ot, kt, rfl, hst, hrt⟩
          obtain ⟨rfl, rfl⟩ := HO.out.2.2.2.1 _ _ hrt
          rw [show erV 0 = Value.nilIface from rfl]
          have HBT := Hd.mk (bstep HBA.out hbt)
          have HATT := Hd.mk (HATA.out.below hbt)
          have HSLT := Hd.mk (HSLA.out.below hbt)
          have HSB := Hd.mk (HSA.out.below hbt)
          have HST := Hd.mk hst
          obtain ⟨At, ct, rfl, -⟩ := hst
          clear hbt hrt
          go_wp2_with fail
          refine (kapply_calls (HG.out.below HBT.out) HST.out HOB.out HGD.out.all).mono ?_
          rintro e wp ⟨rfl, hbp⟩
          have HBP := Hd.mk (bstep HBT.out hbp)
          have HATP := Hd.mk (HATT.out.below hbp)
          have HSLP := Hd.mk (HSLT.out.below hbp)
          have HSC' := Hd.mk (HSB.out.below hbp)
          have HSTP := Hd.mk (HST.out.below hbp)
          clear hbp
          go_wp2_with fail
          refine (from_calls (u := u) HATP.out HGD.out rfl (HG.out.below HBP.out) HSTP.out (fun p hp => by have h1 := plen_mem' hp; have h2 := HOB.out.p; omega) (by have h1 := HO.out.2.2.1; have h2 := HLN.out; have h3 := HN61.out; omega)).mono ?_
          rintro e wq ⟨hbq, vq, oq, kq, rfl, hsq, hrq⟩
          obtain ⟨rfl, rfl⟩ := tnR_back HU.out HO.out.2.2.2.2 hrq
          rw [show erV 0 = Value.nilIface from rfl]
          have HBQ := Hd.mk (bstep HBP.out hbq)
          have HSLQ := Hd.mk (HSLP.out.below hbq)
          have HSD' := Hd.mk (HSC'.out.below hbq)
          rw [HLN.out] at hsq
          have HSQ := Hd.mk hsq
          obtain ⟨Aq, cq, rfl, -⟩ := hsq
          clear hbq hrq
          go_wp2_with fail
          refine (same_calls HSQ.out HSLQ.out).mono ?_
          rintro e ws ⟨rfl, hbs⟩
          have HBS := Hd.mk (bstep HBQ.out hbs)
          have HSE := Hd.mk (HSD'.out.below hbs)
          clear hbs
          rcases HCASE.out with ⟨hov, rfl, hRR⟩ | ⟨hov, rfl, hRR⟩
          · have hi8 : (8000 : Int) < ((U.encs (rap X t.runes)).length : Int) := by have := HEN.out; omega
            rw [hRR] at HSE
            clear hov HCASE hRR
            unfold errno
            go_wp2_with fail
            refine (tell_calls (.no 12) (HG.out.below HBS.out)).mono ?_
            rintro e wy ⟨rfl, hby⟩
            have HBY := Hd.mk (bstep HBS.out hby)
            have HSC := Hd.mk (HSE.out.below hby)
            clear hby
            go_wp2_with fail
            refine (shtext_calls HSC.out).mono ?_
            rintro e wv ⟨rfl, hbv⟩
            have HBV := Hd.mk (bstep HBY.out hbv)
            clear hbv
            go_wp2_with fail
            go_ret
            exact ⟨rfl, HBV.out⟩
          · have hi8 : ¬ ((8000 : Int) < ((U.encs (rap X t.runes)).length : Int)) := by have := HEN.out; omega
            rw [hRR] at HSE
            clear hov HCASE hRR
            go_wp2_with fail
            refine (shtext_calls HSE.out).mono ?_
            rintro e wv ⟨rfl, hbv⟩
            have HBV := Hd.mk (bstep HBS.out hbv)
            clear hbv
            go_wp2_with fail
            go_ret
            exact ⟨rfl, HBV.out⟩
end
end Go.Proofs.YtgokmldngnmmhaaDoor
/- The walk of the law ShapeAlike. -/
namespace Go.Proofs.YtgokmldngnmmhaaDoor
open Go.RowKit
set_option maxRecDepth 100000
section
set_option maxHeartbeats 16000000 in
theorem shapeAlike_walk {s : U.Bs} {unit : Int} {l : List PT} {v : Value} {n : Nat} {raw : Bool} {w : World} (hg : Hdl w) (hsl : Sl w 3 v n (opv l)) (hsm : s.length ≤ maxLen) :
    Calls Tryd.prog 11 #[.int .i64 unit, .string ⟨s.toArray⟩, v, .bool raw] w fun e w' => e = .returned (.bool true) ∧ Below w.heap.size w w' := by
  cases raw
  · exact shapeAlike_fit hg hsl hsm
  · exact shapeAlike_raw hg hsl hsm
end
end Go.Proofs.YtgokmldngnmmhaaDoor
