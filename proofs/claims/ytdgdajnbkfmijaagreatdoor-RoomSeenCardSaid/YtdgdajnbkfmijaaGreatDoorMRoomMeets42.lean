/- Several texts of the proof, one behind the other: ShAH, ShAR, ShAB. -/
import Derived.Test.YtdgdajnbkfmijaaGreatDoorMRoomMeets41
import Derived.Test.YtdgdajnbkfmijaaGreatDoorMRoomMeets39
import Derived.Test.YtdgdajnbkfmijaaGreatDoorMRoomMeets40
/- shape.Apply over halves. -/
namespace Go.Proofs.YtdgdajnbkfmijaaGreatDoor
open Go.RowKit
set_option maxRecDepth 100000
set_option maxHeartbeats 4000000 in
theorem shap_H {R : List Int} {l : List PT} {v2 : Value} {n2 f : Nat} {w : World} (hs : ShS w f 2 R) (hg : Hdl w) (hs2 : Sl w 3 v2 n2 (opv l)) (hpl : plen l ≤ 100000) (hn : n2 ≤ 100000) (hc : chk l ((cnt R).of 2) = 0) :
    Calls Tryz.prog 76 #[.pointer (some ⟨f, 0, none⟩), v2] w (ShApPost f 2 R l w) := by
  have HLN := Hd.mk (len_calls hs)
  have HALL := Hd.mk hs.all
  have HSZ := Hd.mk hs.sz
  obtain ⟨t, vh, vr, hk, hv⟩ := hs.ex
  obtain ⟨rfl, hsl, rfl⟩ := hv.k2 rfl
  obtain ⟨A, c, rfl⟩ : ∃ A c, vh = .slice A (U.hvs R).length c := (by obtain ⟨A, c, e, -⟩ := hsl; exact ⟨A, c, e⟩)
  have HS1 := Hd.mk hsl
  have HK := Hd.mk hk
  have HS2 := Hd.mk hs2
  have HG := Hd.mk hg
  have HP : Hd (∀ p ∈ l, p.put.length ≤ 35184372087808) := ⟨fun p hp => by have := plen_mem' hp; omega⟩
  have HC := Hd.mk hc
  obtain ⟨hgd, hw⟩ := chk_zero hc
  have HGD := Hd.mk hgd
  have HW := Hd.mk hw
  have HPL := Hd.mk hpl
  have HN := Hd.mk hn
  obtain ⟨A2, c2, rfl, -⟩ := hs2
  have h0 := of_nn R 2
  have h1 := of_le (rs := R) (n := bl R) (bl_len R) 2
  have h2 := hs.sz
  have HM : Hd (-9223372036854775808 ≤ (cnt R).of 2 ∧ (cnt R).of 2 ≤ 9223372036854775807) := ⟨by omega⟩
  by_cases hk0 : (tnF R 2 1 Cn.zero 0 l).2 = 0
  · have HK0 := Hd.mk hk0
    have HBND : Hd (comes (tnF R 2 1 Cn.zero 0 l).1 ≤ 200000) := ⟨by have := tn_bnd (by decide) hgd hw hk0; omega⟩
    by_cases hov : 8000 < comes (tnF R 2 1 Cn.zero 0 l).1
    · have HOV := Hd.mk hov
      clear hs hg hc h0 h1 h2 hsl hk hgd hw hpl hn hv hk0 hov
      go_enter Tryz.func76, Tryz.ntmps76
      go_wp2_with (first
        | (go_at_call 66; refine HLN.out.mono ?_; rintro e w1 ⟨rfl, hb1⟩; have HB1 := Hd.mk hb1; clear hb1)
        | (go_at_call 92; refine (ocheck_calls (HG.out.below HB1.out) (HS2.out.below HB1.out) HP.out HM.out).mono ?_; rintro e w2 ⟨⟨ev, rfl, -, hev⟩, hb2⟩; rw [HC.out] at hev; rw [show errOf 0 = Value.nilIface from rfl] at hev; obtain rfl := hev; have hx2 := bstep HB1.out hb2; have HB2 := Hd.mk hx2; have hk2 := HK.out.below hx2 HK.out.lt; have HK2 := Hd.mk hk2; obtain ⟨z0, z1, z2, z3⟩ := four_cells hk2; have zf := hk2.frozen; have zl := hk2.lt; clear hb2 hx2 hk2)
        | (go_at_call 109; refine (plays_H HALL.out HSZ.out (HS1.out.below (ex_alloc HB2.out _)) (HS2.out.below (ex_alloc HB2.out _)) HGD.out HW.out HPL.out HN.out).mono ?_; rintro e w3 ⟨hb3, hpost⟩; obtain ⟨v, X, -, hX, rfl, hslv, hfr⟩ := hpost.resolve_right (fun h => by have := h.1; rw [HK0.out] at this; cases this); obtain ⟨A3, c3, rfl⟩ : ∃ A3 c3, v = .slice A3 (U.hvs (rap X R)).length c3 := (by obtain ⟨A, c, e, -⟩ := hslv; exact ⟨A, c, e⟩); have HSLV := Hd.mk hslv; have HFR := Hd.mk hfr; have HX := Hd.mk hX; have HB3 := Hd.mk hb3; have hn3 := (Blk.new w2 196 #[.int .i64 2, .string ⟨#[]⟩, .slice none 0 0, .slice none 0 0]).below hb3 (by simp); have HN3 := Hd.mk hn3; obtain ⟨y0, y1, y2, y3⟩ := four_cells hn3; have yf := hn3.frozen; have yl := hn3.lt; have hx3 : Below w2.heap.size w2 w3 := bstep (ex_alloc (Below.refl _ w2) _) hb3; have HX3 := Hd.mk hx3; clear z0 z1 z2 z3 zf zl; have hcm := hX.sizes.2; have hlen : (U.encs (rap X R)).length = bl (rap X R) := rfl; have hi : (8000 : Int) < ((U.encs (rap X R)).length : Int) := (by have := HOV.out; omega); clear hb3 hpost hX hslv hfr hn3 hx3 hcm hlen)
        | (go_at_call 67; refine (shtext_any (u := 2) (R := rap X R) (t := []) (vh := .slice A3 (U.hvs (rap X R)).length c3) (vr := .slice none 0 0) (rap_all HX.out.allP HALL.out) (by decide) (by have h1 := HX.out.sizes.2; have h2 := HBND.out; omega) (HN3.out.set_ 2 (.slice A3 (U.hvs (rap X R)).length c3)) ⟨fun h => by omega, fun _ => ⟨rfl, HSLV.out.frs (S := fun k => k = w2.heap.size) HFR.out ((Only.refl (fun k => k = w2.heap.size) w3).setCell (p := ⟨w2.heap.size, 2, none⟩) (.inl rfl) (.slice A3 (U.hvs (rap X R)).length c3)) (fun k e => by subst e; simp), rfl⟩, fun h => by omega⟩).mono ?_; rintro e w5 ⟨rfl, hb5⟩; have hn5 := (HN3.out.set_ 2 (.slice A3 (U.hvs (rap X R)).length c3)).below hb5 (by simp; exact yl); have ho5 : Only (fun _ => False) w w5 := ((Only.of_below (bstep HB2.out HX3.out) : Only (fun _ => False) w w3).setCell (p := ⟨w2.heap.size, 2, none⟩) (.inr HB2.out.size) (.slice A3 (U.hvs (rap X R)).length c3)).then_below hb5; have HO5 := Hd.mk ho5; have HV5 : Hd (ShV w5 2 (rap X R) _ _ _) := ⟨ShV.below (⟨fun h => by omega, fun _ => ⟨rfl, HSLV.out.frs (S := fun k => k = w2.heap.size) HFR.out ((Only.refl (fun k => k = w2.heap.size) w3).setCell (p := ⟨w2.heap.size, 2, none⟩) (.inl rfl) (.slice A3 (U.hvs (rap X R)).length c3)) (fun k e => by subst e; simp), rfl⟩, fun h => by omega⟩ : ShV _ 2 (rap X R) ([]) (.slice A3 (U.hvs (rap X R)).length c3) (.slice none 0 0)) hb5⟩; have hk5 := HK.out.only ho5 (fun h => h); have HK5 := Hd.mk hk5; clear y0 y1 y2 y3 yf yl; obtain ⟨y0, y1, y2, y3⟩ := four_cells hn5; have yf := hn5.frozen; have yl := hn5.lt; obtain ⟨z0, z1, z2, z3⟩ := four_cells hk5; have zf := hk5.frozen; have zl := hk5.lt; clear hb5 hn5 ho5 hk5))
      go_ret
      exact ⟨HO5.out.mono (fun _ _ h => h.elim), fun h => absurd HC.out h, fun _ => .inr ⟨HK0.out, X, HX.out, .inl ⟨by have := HX.out.sizes.2; have := HOV.out; omega, rfl, HO5.out.below (Nat.le_refl _) (fun _ _ h => h)⟩⟩⟩
    · have HOV := Hd.mk hov
      clear hs hg hc h0 h1 h2 hsl hk hgd hw hpl hn hv hk0 hov
      go_enter Tryz.func76, Tryz.ntmps76
      go_wp2_with (first
        | (go_at_call 66; refine HLN.out.mono ?_; rintro e w1 ⟨rfl, hb1⟩; have HB1 := Hd.mk hb1; clear hb1)
        | (go_at_call 92; refine (ocheck_calls (HG.out.below HB1.out) (HS2.out.below HB1.out) HP.out HM.out).mono ?_; rintro e w2 ⟨⟨ev, rfl, -, hev⟩, hb2⟩; rw [HC.out] at hev; rw [show errOf 0 = Value.nilIface from rfl] at hev; obtain rfl := hev; have hx2 := bstep HB1.out hb2; have HB2 := Hd.mk hx2; have hk2 := HK.out.below hx2 HK.out.lt; have HK2 := Hd.mk hk2; obtain ⟨z0, z1, z2, z3⟩ := four_cells hk2; have zf := hk2.frozen; have zl := hk2.lt; clear hb2 hx2 hk2)
        | (go_at_call 109; refine (plays_H HALL.out HSZ.out (HS1.out.below (ex_alloc HB2.out _)) (HS2.out.below (ex_alloc HB2.out _)) HGD.out HW.out HPL.out HN.out).mono ?_; rintro e w3 ⟨hb3, hpost⟩; obtain ⟨v, X, -, hX, rfl, hslv, hfr⟩ := hpost.resolve_right (fun h => by have := h.1; rw [HK0.out] at this; cases this); obtain ⟨A3, c3, rfl⟩ : ∃ A3 c3, v = .slice A3 (U.hvs (rap X R)).length c3 := (by obtain ⟨A, c, e, -⟩ := hslv; exact ⟨A, c, e⟩); have HSLV := Hd.mk hslv; have HFR := Hd.mk hfr; have HX := Hd.mk hX; have HB3 := Hd.mk hb3; have hn3 := (Blk.new w2 196 #[.int .i64 2, .string ⟨#[]⟩, .slice none 0 0, .slice none 0 0]).below hb3 (by simp); have HN3 := Hd.mk hn3; obtain ⟨y0, y1, y2, y3⟩ := four_cells hn3; have yf := hn3.frozen; have yl := hn3.lt; have hx3 : Below w2.heap.size w2 w3 := bstep (ex_alloc (Below.refl _ w2) _) hb3; have HX3 := Hd.mk hx3; clear z0 z1 z2 z3 zf zl; have hcm := hX.sizes.2; have hlen : (U.encs (rap X R)).length = bl (rap X R) := rfl; have hi : ¬ ((8000 : Int) < ((U.encs (rap X R)).length : Int)) := (by have := HOV.out; omega); clear hb3 hpost hX hslv hfr hn3 hx3 hcm hlen)
        | (go_at_call 67; refine (shtext_any (u := 2) (R := rap X R) (t := []) (vh := .slice A3 (U.hvs (rap X R)).length c3) (vr := .slice none 0 0) (rap_all HX.out.allP HALL.out) (by decide) (by have h1 := HX.out.sizes.2; have h2 := HBND.out; omega) (HN3.out.set_ 2 (.slice A3 (U.hvs (rap X R)).length c3)) ⟨fun h => by omega, fun _ => ⟨rfl, HSLV.out.frs (S := fun k => k = w2.heap.size) HFR.out ((Only.refl (fun k => k = w2.heap.size) w3).setCell (p := ⟨w2.heap.size, 2, none⟩) (.inl rfl) (.slice A3 (U.hvs (rap X R)).length c3)) (fun k e => by subst e; simp), rfl⟩, fun h => by omega⟩).mono ?_; rintro e w5 ⟨rfl, hb5⟩; have hn5 := (HN3.out.set_ 2 (.slice A3 (U.hvs (rap X R)).length c3)).below hb5 (by simp; exact yl); have ho5 : Only (fun _ => False) w w5 := ((Only.of_below (bstep HB2.out HX3.out) : Only (fun _ => False) w w3).setCell (p := ⟨w2.heap.size, 2, none⟩) (.inr HB2.out.size) (.slice A3 (U.hvs (rap X R)).length c3)).then_below hb5; have HO5 := Hd.mk ho5; have HV5 : Hd (ShV w5 2 (rap X R) _ _ _) := ⟨ShV.below (⟨fun h => by omega, fun _ => ⟨rfl, HSLV.out.frs (S := fun k => k = w2.heap.size) HFR.out ((Only.refl (fun k => k = w2.heap.size) w3).setCell (p := ⟨w2.heap.size, 2, none⟩) (.inl rfl) (.slice A3 (U.hvs (rap X R)).length c3)) (fun k e => by subst e; simp), rfl⟩, fun h => by omega⟩ : ShV _ 2 (rap X R) ([]) (.slice A3 (U.hvs (rap X R)).length c3) (.slice none 0 0)) hb5⟩; have hk5 := HK.out.only ho5 (fun h => h); have HK5 := Hd.mk hk5; clear y0 y1 y2 y3 yf yl; obtain ⟨y0, y1, y2, y3⟩ := four_cells hn5; have yf := hn5.frozen; have yl := hn5.lt; obtain ⟨z0, z1, z2, z3⟩ := four_cells hk5; have zf := hk5.frozen; have zl := hk5.lt; clear hb5 hn5 ho5 hk5))
      go_ret
      have hcm : bl (rap X R) ≤ 8000 := by have := HX.out.sizes.2; have := HOV.out; omega
      have hkf := (((HK5.out.set_ 0 (.int .i64 2)).set_ 1 (.string ⟨#[]⟩)).set_ 2 (.slice A3 (U.hvs (rap X R)).length c3)).set_ 3 (.slice none 0 0)
      have hof : Only (fun k => k = f) w5 _ := ((((Only.refl (fun k => k = f) w5).setCell (p := ⟨f, 0, none⟩) (.inl rfl) (.int .i64 2)).setCell (p := ⟨f, 1, none⟩) (.inl rfl) (.string ⟨#[]⟩)).setCell (p := ⟨f, 2, none⟩) (.inl rfl) (.slice A3 (U.hvs (rap X R)).length c3)).setCell (p := ⟨f, 3, none⟩) (.inl rfl) (.slice none 0 0)
      exact ⟨(HO5.out.mono (fun _ _ h => h.elim)).trans hof, fun h => absurd HC.out h, fun _ => .inr ⟨HK0.out, X, HX.out, .inr ⟨hcm, rfl, rap_all HX.out.allP HALL.out, by decide, hcm, _, _, _, hkf, HV5.out.frs HFR.out (Frs.nil _) hof (fun k e => by subst e; have := HK2.out.lt; simp; omega), HFR.out.mono (by have := HB2.out.size; simp; omega), Frs.nil _⟩⟩⟩
  · have HK0 := Hd.mk hk0
    clear hs hg hc h0 h1 h2 hsl hk hgd hw hpl hn hv hk0
    go_enter Tryz.func76, Tryz.ntmps76
    go_wp2_with (first
      | (go_at_call 66; refine HLN.out.mono ?_; rintro e w1 ⟨rfl, hb1⟩; have HB1 := Hd.mk hb1; clear hb1)
      | (go_at_call 92; refine (ocheck_calls (HG.out.below HB1.out) (HS2.out.below HB1.out) HP.out HM.out).mono ?_; rintro e w2 ⟨⟨ev, rfl, -, hev⟩, hb2⟩; rw [HC.out] at hev; rw [show errOf 0 = Value.nilIface from rfl] at hev; obtain rfl := hev; have hx2 := bstep HB1.out hb2; have HB2 := Hd.mk hx2; have hk2 := HK.out.below hx2 HK.out.lt; have HK2 := Hd.mk hk2; obtain ⟨z0, z1, z2, z3⟩ := four_cells hk2; have zf := hk2.frozen; have zl := hk2.lt; clear hb2 hx2 hk2)
      | (go_at_call 109; refine (plays_H HALL.out HSZ.out (HS1.out.below (ex_alloc HB2.out _)) (HS2.out.below (ex_alloc HB2.out _)) HGD.out HW.out HPL.out HN.out).mono ?_; rintro e w3 ⟨hb3, hpost⟩; obtain ⟨ht10, rfl⟩ := hpost.resolve_left (fun h => by obtain ⟨v, X, h, -⟩ := h; exact HK0.out h); unfold errno; have hn3 := (Blk.new w2 196 #[.int .i64 2, .string ⟨#[]⟩, .slice none 0 0, .slice none 0 0]).below hb3 (by simp); have HN3 := Hd.mk hn3; obtain ⟨y0, y1, y2, y3⟩ := four_cells hn3; have yf := hn3.frozen; have yl := hn3.lt; have hx3 : Below w2.heap.size w2 w3 := bstep (ex_alloc (Below.refl _ w2) _) hb3; have HX3 := Hd.mk hx3; clear z0 z1 z2 z3 zf zl; have ho4 : Only (fun _ => False) w _ := (Only.of_below (bstep HB2.out hx3) : Only (fun _ => False) w w3).setCell (p := ⟨w2.heap.size, 2, none⟩) (.inr HB2.out.size) (.slice none 0 0); have HO4 := Hd.mk ho4; have HT10 := Hd.mk ht10; clear hpost hb3 hn3 hx3 ho4 ht10))
    go_ret
    exact ⟨HO4.out.mono (fun _ _ h => h.elim), fun h => absurd HC.out h, fun _ => .inl ⟨HT10.out, rfl, HO4.out.below (Nat.le_refl _) (fun _ _ h => h)⟩⟩
end Go.Proofs.YtdgdajnbkfmijaaGreatDoor
/- shape.Apply over runes. -/
namespace Go.Proofs.YtdgdajnbkfmijaaGreatDoor
open Go.RowKit
set_option maxRecDepth 100000
set_option maxHeartbeats 4000000 in
theorem shap_R {R : List Int} {l : List PT} {v2 : Value} {n2 f : Nat} {w : World} (hs : ShS w f 3 R) (hg : Hdl w) (hs2 : Sl w 3 v2 n2 (opv l)) (hpl : plen l ≤ 100000) (hn : n2 ≤ 100000) (hc : chk l ((cnt R).of 3) = 0) :
    Calls Tryz.prog 76 #[.pointer (some ⟨f, 0, none⟩), v2] w (ShApPost f 3 R l w) := by
  have HLN := Hd.mk (len_calls hs)
  have HALL := Hd.mk hs.all
  have HSZ := Hd.mk hs.sz
  obtain ⟨t, vh, vr, hk, hv⟩ := hs.ex
  obtain ⟨rfl, rfl, hsl⟩ := hv.k3 rfl
  obtain ⟨A, c, rfl⟩ : ∃ A c, vr = .slice A R.length c := (by obtain ⟨A, c, e, -⟩ := hsl; exact ⟨A, c, e⟩)
  have HS1 := Hd.mk hsl
  have HK := Hd.mk hk
  have HS2 := Hd.mk hs2
  have HG := Hd.mk hg
  have HP : Hd (∀ p ∈ l, p.put.length ≤ 35184372087808) := ⟨fun p hp => by have := plen_mem' hp; omega⟩
  have HC := Hd.mk hc
  obtain ⟨hgd, hw⟩ := chk_zero hc
  have HGD := Hd.mk hgd
  have HW := Hd.mk hw
  have HPL := Hd.mk hpl
  have HN := Hd.mk hn
  obtain ⟨A2, c2, rfl, -⟩ := hs2
  have h0 := of_nn R 3
  have h1 := of_le (rs := R) (n := bl R) (bl_len R) 3
  have h2 := hs.sz
  have HM : Hd (-9223372036854775808 ≤ (cnt R).of 3 ∧ (cnt R).of 3 ≤ 9223372036854775807) := ⟨by omega⟩
  by_cases hk0 : (tnF R 3 1 Cn.zero 0 l).2 = 0
  · have HK0 := Hd.mk hk0
    have HBND : Hd (comes (tnF R 3 1 Cn.zero 0 l).1 ≤ 200000) := ⟨by have := tn_bnd (by decide) hgd hw hk0; omega⟩
    by_cases hov : 8000 < comes (tnF R 3 1 Cn.zero 0 l).1
    · have HOV := Hd.mk hov
      clear hs hg hc h0 h1 h2 hsl hk hgd hw hpl hn hv hk0 hov
      go_enter Tryz.func76, Tryz.ntmps76
      go_wp2_with (first
        | (go_at_call 66; refine HLN.out.mono ?_; rintro e w1 ⟨rfl, hb1⟩; have HB1 := Hd.mk hb1; clear hb1)
        | (go_at_call 92; refine (ocheck_calls (HG.out.below HB1.out) (HS2.out.below HB1.out) HP.out HM.out).mono ?_; rintro e w2 ⟨⟨ev, rfl, -, hev⟩, hb2⟩; rw [HC.out] at hev; rw [show errOf 0 = Value.nilIface from rfl] at hev; obtain rfl := hev; have hx2 := bstep HB1.out hb2; have HB2 := Hd.mk hx2; have hk2 := HK.out.below hx2 HK.out.lt; have HK2 := Hd.mk hk2; obtain ⟨z0, z1, z2, z3⟩ := four_cells hk2; have zf := hk2.frozen; have zl := hk2.lt; clear hb2 hx2 hk2)
        | (go_at_call 113; refine (plays_R HALL.out HSZ.out (HS1.out.below (ex_alloc HB2.out _)) (HS2.out.below (ex_alloc HB2.out _)) HGD.out HW.out HPL.out HN.out).mono ?_; rintro e w3 ⟨hb3, hpost⟩; obtain ⟨v, X, -, hX, rfl, hslv, hfr⟩ := hpost.resolve_right (fun h => by have := h.1; rw [HK0.out] at this; cases this); obtain ⟨A3, c3, rfl⟩ : ∃ A3 c3, v = .slice A3 ((rap X R)).length c3 := (by obtain ⟨A, c, e, -⟩ := hslv; exact ⟨A, c, e⟩); have HSLV := Hd.mk hslv; have HFR := Hd.mk hfr; have HX := Hd.mk hX; have HB3 := Hd.mk hb3; have hn3 := (Blk.new w2 196 #[.int .i64 3, .string ⟨#[]⟩, .slice none 0 0, .slice none 0 0]).below hb3 (by simp); have HN3 := Hd.mk hn3; obtain ⟨y0, y1, y2, y3⟩ := four_cells hn3; have yf := hn3.frozen; have yl := hn3.lt; have hx3 : Below w2.heap.size w2 w3 := bstep (ex_alloc (Below.refl _ w2) _) hb3; have HX3 := Hd.mk hx3; clear z0 z1 z2 z3 zf zl; have hcm := hX.sizes.2; have hlen : (U.encs (rap X R)).length = bl (rap X R) := rfl; have hi : (8000 : Int) < ((U.encs (rap X R)).length : Int) := (by have := HOV.out; omega); clear hb3 hpost hX hslv hfr hn3 hx3 hcm hlen)
        | (go_at_call 67; refine (shtext_any (u := 3) (R := rap X R) (t := []) (vh := .slice none 0 0) (vr := .slice A3 (rap X R).length c3) (rap_all HX.out.allP HALL.out) (by decide) (by have h1 := HX.out.sizes.2; have h2 := HBND.out; omega) (HN3.out.set_ 3 (.slice A3 (rap X R).length c3)) ⟨fun h => by omega, fun h => by omega, fun _ => ⟨rfl, rfl, HSLV.out.frs (S := fun k => k = w2.heap.size) HFR.out ((Only.refl (fun k => k = w2.heap.size) w3).setCell (p := ⟨w2.heap.size, 3, none⟩) (.inl rfl) (.slice A3 (rap X R).length c3)) (fun k e => by subst e; simp)⟩⟩).mono ?_; rintro e w5 ⟨rfl, hb5⟩; have hn5 := (HN3.out.set_ 3 (.slice A3 (rap X R).length c3)).below hb5 (by simp; exact yl); have ho5 : Only (fun _ => False) w w5 := ((Only.of_below (bstep HB2.out HX3.out) : Only (fun _ => False) w w3).setCell (p := ⟨w2.heap.size, 3, none⟩) (.inr HB2.out.size) (.slice A3 (rap X R).length c3)).then_below hb5; have HO5 := Hd.mk ho5; have HV5 : Hd (ShV w5 3 (rap X R) _ _ _) := ⟨ShV.below (⟨fun h => by omega, fun h => by omega, fun _ => ⟨rfl, rfl, HSLV.out.frs (S := fun k => k = w2.heap.size) HFR.out ((Only.refl (fun k => k = w2.heap.size) w3).setCell (p := ⟨w2.heap.size, 3, none⟩) (.inl rfl) (.slice A3 (rap X R).length c3)) (fun k e => by subst e; simp)⟩⟩ : ShV _ 3 (rap X R) ([]) (.slice none 0 0) (.slice A3 (rap X R).length c3)) hb5⟩; have hk5 := HK.out.only ho5 (fun h => h); have HK5 := Hd.mk hk5; clear y0 y1 y2 y3 yf yl; obtain ⟨y0, y1, y2, y3⟩ := four_cells hn5; have yf := hn5.frozen; have yl := hn5.lt; obtain ⟨z0, z1, z2, z3⟩ := four_cells hk5; have zf := hk5.frozen; have zl := hk5.lt; clear hb5 hn5 ho5 hk5))
      go_ret
      exact ⟨HO5.out.mono (fun _ _ h => h.elim), fun h => absurd HC.out h, fun _ => .inr ⟨HK0.out, X, HX.out, .inl ⟨by have := HX.out.sizes.2; have := HOV.out; omega, rfl, HO5.out.below (Nat.le_refl _) (fun _ _ h => h)⟩⟩⟩
    · have HOV := Hd.mk hov
      clear hs hg hc h0 h1 h2 hsl hk hgd hw hpl hn hv hk0 hov
      go_enter Tryz.func76, Tryz.ntmps76
      go_wp2_with (first
        | (go_at_call 66; refine HLN.out.mono ?_; rintro e w1 ⟨rfl, hb1⟩; have HB1 := Hd.mk hb1; clear hb1)
        | (go_at_call 92; refine (ocheck_calls (HG.out.below HB1.out) (HS2.out.below HB1.out) HP.out HM.out).mono ?_; rintro e w2 ⟨⟨ev, rfl, -, hev⟩, hb2⟩; rw [HC.out] at hev; rw [show errOf 0 = Value.nilIface from rfl] at hev; obtain rfl := hev; have hx2 := bstep HB1.out hb2; have HB2 := Hd.mk hx2; have hk2 := HK.out.below hx2 HK.out.lt; have HK2 := Hd.mk hk2; obtain ⟨z0, z1, z2, z3⟩ := four_cells hk2; have zf := hk2.frozen; have zl := hk2.lt; clear hb2 hx2 hk2)
        | (go_at_call 113; refine (plays_R HALL.out HSZ.out (HS1.out.below (ex_alloc HB2.out _)) (HS2.out.below (ex_alloc HB2.out _)) HGD.out HW.out HPL.out HN.out).mono ?_; rintro e w3 ⟨hb3, hpost⟩; obtain ⟨v, X, -, hX, rfl, hslv, hfr⟩ := hpost.resolve_right (fun h => by have := h.1; rw [HK0.out] at this; cases this); obtain ⟨A3, c3, rfl⟩ : ∃ A3 c3, v = .slice A3 ((rap X R)).length c3 := (by obtain ⟨A, c, e, -⟩ := hslv; exact ⟨A, c, e⟩); have HSLV := Hd.mk hslv; have HFR := Hd.mk hfr; have HX := Hd.mk hX; have HB3 := Hd.mk hb3; have hn3 := (Blk.new w2 196 #[.int .i64 3, .string ⟨#[]⟩, .slice none 0 0, .slice none 0 0]).below hb3 (by simp); have HN3 := Hd.mk hn3; obtain ⟨y0, y1, y2, y3⟩ := four_cells hn3; have yf := hn3.frozen; have yl := hn3.lt; have hx3 : Below w2.heap.size w2 w3 := bstep (ex_alloc (Below.refl _ w2) _) hb3; have HX3 := Hd.mk hx3; clear z0 z1 z2 z3 zf zl; have hcm := hX.sizes.2; have hlen : (U.encs (rap X R)).length = bl (rap X R) := rfl; have hi : ¬ ((8000 : Int) < ((U.encs (rap X R)).length : Int)) := (by have := HOV.out; omega); clear hb3 hpost hX hslv hfr hn3 hx3 hcm hlen)
        | (go_at_call 67; refine (shtext_any (u := 3) (R := rap X R) (t := []) (vh := .slice none 0 0) (vr := .slice A3 (rap X R).length c3) (rap_all HX.out.allP HALL.out) (by decide) (by have h1 := HX.out.sizes.2; have h2 := HBND.out; omega) (HN3.out.set_ 3 (.slice A3 (rap X R).length c3)) ⟨fun h => by omega, fun h => by omega, fun _ => ⟨rfl, rfl, HSLV.out.frs (S := fun k => k = w2.heap.size) HFR.out ((Only.refl (fun k => k = w2.heap.size) w3).setCell (p := ⟨w2.heap.size, 3, none⟩) (.inl rfl) (.slice A3 (rap X R).length c3)) (fun k e => by subst e; simp)⟩⟩).mono ?_; rintro e w5 ⟨rfl, hb5⟩; have hn5 := (HN3.out.set_ 3 (.slice A3 (rap X R).length c3)).below hb5 (by simp; exact yl); have ho5 : Only (fun _ => False) w w5 := ((Only.of_below (bstep HB2.out HX3.out) : Only (fun _ => False) w w3).setCell (p := ⟨w2.heap.size, 3, none⟩) (.inr HB2.out.size) (.slice A3 (rap X R).length c3)).then_below hb5; have HO5 := Hd.mk ho5; have HV5 : Hd (ShV w5 3 (rap X R) _ _ _) := ⟨ShV.below (⟨fun h => by omega, fun h => by omega, fun _ => ⟨rfl, rfl, HSLV.out.frs (S := fun k => k = w2.heap.size) HFR.out ((Only.refl (fun k => k = w2.heap.size) w3).setCell (p := ⟨w2.heap.size, 3, none⟩) (.inl rfl) (.slice A3 (rap X R).length c3)) (fun k e => by subst e; simp)⟩⟩ : ShV _ 3 (rap X R) ([]) (.slice none 0 0) (.slice A3 (rap X R).length c3)) hb5⟩; have hk5 := HK.out.only ho5 (fun h => h); have HK5 := Hd.mk hk5; clear y0 y1 y2 y3 yf yl; obtain ⟨y0, y1, y2, y3⟩ := four_cells hn5; have yf := hn5.frozen; have yl := hn5.lt; obtain ⟨z0, z1, z2, z3⟩ := four_cells hk5; have zf := hk5.frozen; have zl := hk5.lt; clear hb5 hn5 ho5 hk5))
      go_ret
      have hcm : bl (rap X R) ≤ 8000 := by have := HX.out.sizes.2; have := HOV.out; omega
      have hkf := (((HK5.out.set_ 0 (.int .i64 3)).set_ 1 (.string ⟨#[]⟩)).set_ 2 (.slice none 0 0)).set_ 3 (.slice A3 (rap X R).length c3)
      have hof : Only (fun k => k = f) w5 _ := ((((Only.refl (fun k => k = f) w5).setCell (p := ⟨f, 0, none⟩) (.inl rfl) (.int .i64 3)).setCell (p := ⟨f, 1, none⟩) (.inl rfl) (.string ⟨#[]⟩)).setCell (p := ⟨f, 2, none⟩) (.inl rfl) (.slice none 0 0)).setCell (p := ⟨f, 3, none⟩) (.inl rfl) (.slice A3 (rap X R).length c3)
      exact ⟨(HO5.out.mono (fun _ _ h => h.elim)).trans hof, fun h => absurd HC.out h, fun _ => .inr ⟨HK0.out, X, HX.out, .inr ⟨hcm, rfl, rap_all HX.out.allP HALL.out, by decide, hcm, _, _, _, hkf, HV5.out.frs (Frs.nil _) HFR.out hof (fun k e => by subst e; have := HK2.out.lt; simp; omega), Frs.nil _, HFR.out.mono (by have := HB2.out.size; simp; omega)⟩⟩⟩
  · have HK0 := Hd.mk hk0
    clear hs hg hc h0 h1 h2 hsl hk hgd hw hpl hn hv hk0
    go_enter Tryz.func76, Tryz.ntmps76
    go_wp2_with (first
      | (go_at_call 66; refine HLN.out.mono ?_; rintro e w1 ⟨rfl, hb1⟩; have HB1 := Hd.mk hb1; clear hb1)
      | (go_at_call 92; refine (ocheck_calls (HG.out.below HB1.out) (HS2.out.below HB1.out) HP.out HM.out).mono ?_; rintro e w2 ⟨⟨ev, rfl, -, hev⟩, hb2⟩; rw [HC.out] at hev; rw [show errOf 0 = Value.nilIface from rfl] at hev; obtain rfl := hev; have hx2 := bstep HB1.out hb2; have HB2 := Hd.mk hx2; have hk2 := HK.out.below hx2 HK.out.lt; have HK2 := Hd.mk hk2; obtain ⟨z0, z1, z2, z3⟩ := four_cells hk2; have zf := hk2.frozen; have zl := hk2.lt; clear hb2 hx2 hk2)
      | (go_at_call 113; refine (plays_R HALL.out HSZ.out (HS1.out.below (ex_alloc HB2.out _)) (HS2.out.below (ex_alloc HB2.out _)) HGD.out HW.out HPL.out HN.out).mono ?_; rintro e w3 ⟨hb3, hpost⟩; obtain ⟨ht10, rfl⟩ := hpost.resolve_left (fun h => by obtain ⟨v, X, h, -⟩ := h; exact HK0.out h); unfold errno; have hn3 := (Blk.new w2 196 #[.int .i64 3, .string ⟨#[]⟩, .slice none 0 0, .slice none 0 0]).below hb3 (by simp); have HN3 := Hd.mk hn3; obtain ⟨y0, y1, y2, y3⟩ := four_cells hn3; have yf := hn3.frozen; have yl := hn3.lt; have hx3 : Below w2.heap.size w2 w3 := bstep (ex_alloc (Below.refl _ w2) _) hb3; have HX3 := Hd.mk hx3; clear z0 z1 z2 z3 zf zl; have ho4 : Only (fun _ => False) w _ := (Only.of_below (bstep HB2.out hx3) : Only (fun _ => False) w w3).setCell (p := ⟨w2.heap.size, 3, none⟩) (.inr HB2.out.size) (.slice none 0 0); have HO4 := Hd.mk ho4; have HT10 := Hd.mk ht10; clear hpost hb3 hn3 hx3 ho4 ht10))
    go_ret
    exact ⟨HO4.out.mono (fun _ _ h => h.elim), fun h => absurd HC.out h, fun _ => .inl ⟨HT10.out, rfl, HO4.out.below (Nat.le_refl _) (fun _ _ h => h)⟩⟩
end Go.Proofs.YtdgdajnbkfmijaaGreatDoor
/- shape.Apply over bytes. -/
namespace Go.Proofs.YtdgdajnbkfmijaaGreatDoor
open Go.RowKit
set_option maxRecDepth 100000
set_option maxHeartbeats 4000000 in
theorem shap_B {R : List Int} {l : List PT} {v2 : Value} {n2 f : Nat} {w : World} (hs : ShS w f 1 R) (hg : Hdl w) (hs2 : Sl w 3 v2 n2 (opv l)) (hpl : plen l ≤ 100000) (hn : n2 ≤ 100000) (hc : chk l ((cnt R).of 1) = 0) :
    Calls Tryz.prog 76 #[.pointer (some ⟨f, 0, none⟩), v2] w (ShApPost f 1 R l w) := by
  have HLN := Hd.mk (len_calls hs)
  have HALL := Hd.mk hs.all
  have HSZ := Hd.mk hs.sz
  obtain ⟨t, vh, vr, hk, hv⟩ := hs.ex
  obtain ⟨rfl, rfl, rfl⟩ := hv.k1 rfl
  have hsl := fun (w2 : World) => (show Sl (Lib.bytesWorld (w2.alloc (.cells #[.int .i64 1, .string ⟨#[]⟩, .slice none 0 0, .slice none 0 0] 196)) 5 ⟨(U.encs R).toArray⟩) 1 (.slice (some ⟨w2.heap.size + 1, 0, none⟩) (U.encs R).length (grownCap (w2.alloc (.cells #[.int .i64 1, .string ⟨#[]⟩, .slice none 0 0, .slice none 0 0] 196)) (U.encs R).length 0 5)) (U.encs R).length (u8s (U.encs R)) from by
    have h := bytes_sl (w2.alloc (.cells #[.int .i64 1, .string ⟨#[]⟩, .slice none 0 0, .slice none 0 0] 196)) 5 (U.encs R) (by have := hs.sz; show bl R ≤ _; omega)
    have e : (w2.alloc (.cells #[.int .i64 1, .string ⟨#[]⟩, .slice none 0 0, .slice none 0 0] 196)).heap.size = w2.heap.size + 1 := by simp
    rw [e] at h
    exact h)
  have HS1 := Hd.mk hsl
  have HK := Hd.mk hk
  have HS2 := Hd.mk hs2
  have HG := Hd.mk hg
  have HP : Hd (∀ p ∈ l, p.put.length ≤ 35184372087808) := ⟨fun p hp => by have := plen_mem' hp; omega⟩
  have HC := Hd.mk hc
  obtain ⟨hgd, hw⟩ := chk_zero hc
  have HGD := Hd.mk hgd
  have HW := Hd.mk hw
  have HPL := Hd.mk hpl
  have HN := Hd.mk hn
  have hbw : ∀ w2 : World, Below w2.heap.size w2 (Lib.bytesWorld (w2.alloc (.cells #[.int .i64 1, .string ⟨#[]⟩, .slice none 0 0, .slice none 0 0] 196)) 5 ⟨(U.encs R).toArray⟩) := fun w2 => bstep (ex_alloc (Below.refl _ w2) _) (bytes_below _ _ _)
  have HBW := Hd.mk hbw
  have HBB : Hd (∀ {w2 : World}, Below w.heap.size w w2 → Below w.heap.size w (Lib.bytesWorld (w2.alloc (.cells #[.int .i64 1, .string ⟨#[]⟩, .slice none 0 0, .slice none 0 0] 196)) 5 ⟨(U.encs R).toArray⟩)) := ⟨fun h => bstep h (hbw _)⟩
  clear hbw
  obtain ⟨A2, c2, rfl, -⟩ := hs2
  have h0 := of_nn R 1
  have h1 := of_le (rs := R) (n := bl R) (bl_len R) 1
  have h2 := hs.sz
  have HM : Hd (-9223372036854775808 ≤ (cnt R).of 1 ∧ (cnt R).of 1 ≤ 9223372036854775807) := ⟨by omega⟩
  by_cases hk0 : (tnF R 1 1 Cn.zero 0 l).2 = 0
  · have HK0 := Hd.mk hk0
    have HBND : Hd (comes (tnF R 1 1 Cn.zero 0 l).1 ≤ 200000) := ⟨by have := tn_bnd (by decide) hgd hw hk0; omega⟩
    by_cases hov : 8000 < comes (tnF R 1 1 Cn.zero 0 l).1
    · have HOV := Hd.mk hov
      clear hs hg hc h0 h1 h2 hsl hk hgd hw hpl hn hv hk0 hov
      go_enter Tryz.func76, Tryz.ntmps76
      go_wp2_with (first
        | (go_at_call 66; refine HLN.out.mono ?_; rintro e w1 ⟨rfl, hb1⟩; have HB1 := Hd.mk hb1; clear hb1)
        | (go_at_call 92; refine (ocheck_calls (HG.out.below HB1.out) (HS2.out.below HB1.out) HP.out HM.out).mono ?_; rintro e w2 ⟨⟨ev, rfl, -, hev⟩, hb2⟩; rw [HC.out] at hev; rw [show errOf 0 = Value.nilIface from rfl] at hev; obtain rfl := hev; have hx2 := bstep HB1.out hb2; have HB2 := Hd.mk hx2; have hk2 := HK.out.below hx2 HK.out.lt; have HK2 := Hd.mk hk2; obtain ⟨z0, z1, z2, z3⟩ := four_cells hk2; have zf := hk2.frozen; have zl := hk2.lt; clear hb2 hx2 hk2))
      rw [conv_str]
      simp only [Result.andThen]
      rw [Oper.upon_value]
      go_wp2_with (go_at_call 117; refine (plays_B HALL.out HSZ.out (HS1.out _) (HS2.out.below (HBB.out HB2.out)) HGD.out HW.out HPL.out HN.out).mono ?_; rintro e w3 ⟨hb3, hpost⟩; obtain ⟨v, X, -, hX, rfl, hslv, hfr⟩ := hpost.resolve_right (fun h => by have := h.1; rw [HK0.out] at this; cases this); obtain ⟨A3, c3, rfl⟩ : ∃ A3 c3, v = .slice A3 (U.encs (rap X R)).length c3 := (by obtain ⟨A, c, e, -⟩ := hslv; exact ⟨A, c, e⟩); have hcv := hslv; unfold u8s at hcv; have HCV := Hd.mk hcv; have HSLV := Hd.mk hslv; have HFR := Hd.mk hfr; have HX := Hd.mk hX; have HB3 := Hd.mk hb3; have hn3 := (Blk.new w2 196 #[.int .i64 1, .string ⟨#[]⟩, .slice none 0 0, .slice none 0 0]).below (bytes_below _ 5 ⟨(U.encs R).toArray⟩) (by simp) |>.below hb3 (by simp [Lib.bytesWorld_size]; omega); have HN3 := Hd.mk hn3; obtain ⟨y0, y1, y2, y3⟩ := four_cells hn3; have yf := hn3.frozen; have yl := hn3.lt; have hx3 : Below w2.heap.size w2 w3 := bstep (HBW.out w2) hb3; have HX3 := Hd.mk hx3; clear z0 z1 z2 z3 zf zl; have hcm := hX.sizes.2; have hlen : (U.encs (rap X R)).length = bl (rap X R) := rfl; have hi : (8000 : Int) < ((U.encs (rap X R)).length : Int) := (by have := HOV.out; omega); clear hb3 hpost hX hslv hfr hn3 hx3 hcm hlen)
      rw [conv_bytes Tryz.underlying184 Tryz.underlying5 Tryz.underlying9 HCV.out]
      simp only [Result.andThen]
      rw [Oper.upon_value]
      go_wp2_with (go_at_call 67; refine (shtext_any (u := 1) (R := rap X R) (t := U.encs (rap X R)) (vh := .slice none 0 0) (vr := .slice none 0 0) (rap_all HX.out.allP HALL.out) (by decide) (by have h1 := HX.out.sizes.2; have h2 := HBND.out; omega) (HN3.out.set_ 1 (.string ⟨(U.encs (rap X R)).toArray⟩)) ⟨fun _ => ⟨rfl, rfl, rfl⟩, fun h => by omega, fun h => by omega⟩).mono ?_; rintro e w5 ⟨rfl, hb5⟩; have hn5 := (HN3.out.set_ 1 (.string ⟨(U.encs (rap X R)).toArray⟩)).below hb5 (by simp; exact yl); have ho5 : Only (fun _ => False) w w5 := ((Only.of_below (bstep HB2.out HX3.out) : Only (fun _ => False) w w3).setCell (p := ⟨w2.heap.size, 1, none⟩) (.inr HB2.out.size) (.string ⟨(U.encs (rap X R)).toArray⟩)).then_below hb5; have HO5 := Hd.mk ho5; have HV5 : Hd (ShV w5 1 (rap X R) _ _ _) := ⟨ShV.below (⟨fun _ => ⟨rfl, rfl, rfl⟩, fun h => by omega, fun h => by omega⟩ : ShV _ 1 (rap X R) (U.encs (rap X R)) (.slice none 0 0) (.slice none 0 0)) hb5⟩; have hk5 := HK.out.only ho5 (fun h => h); have HK5 := Hd.mk hk5; clear y0 y1 y2 y3 yf yl; obtain ⟨y0, y1, y2, y3⟩ := four_cells hn5; have yf := hn5.frozen; have yl := hn5.lt; obtain ⟨z0, z1, z2, z3⟩ := four_cells hk5; have zf := hk5.frozen; have zl := hk5.lt; clear hb5 hn5 ho5 hk5)
      go_ret
      exact ⟨HO5.out.mono (fun _ _ h => h.elim), fun h => absurd HC.out h, fun _ => .inr ⟨HK0.out, X, HX.out, .inl ⟨by have := HX.out.sizes.2; have := HOV.out; omega, rfl, HO5.out.below (Nat.le_refl _) (fun _ _ h => h)⟩⟩⟩
    · have HOV := Hd.mk hov
      clear hs hg hc h0 h1 h2 hsl hk hgd hw hpl hn hv hk0 hov
      go_enter Tryz.func76, Tryz.ntmps76
      go_wp2_with (first
        | (go_at_call 66; refine HLN.out.mono ?_; rintro e w1 ⟨rfl, hb1⟩; have HB1 := Hd.mk hb1; clear hb1)
        | (go_at_call 92; refine (ocheck_calls (HG.out.below HB1.out) (HS2.out.below HB1.out) HP.out HM.out).mono ?_; rintro e w2 ⟨⟨ev, rfl, -, hev⟩, hb2⟩; rw [HC.out] at hev; rw [show errOf 0 = Value.nilIface from rfl] at hev; obtain rfl := hev; have hx2 := bstep HB1.out hb2; have HB2 := Hd.mk hx2; have hk2 := HK.out.below hx2 HK.out.lt; have HK2 := Hd.mk hk2; obtain ⟨z0, z1, z2, z3⟩ := four_cells hk2; have zf := hk2.frozen; have zl := hk2.lt; clear hb2 hx2 hk2))
      rw [conv_str]
      simp only [Result.andThen]
      rw [Oper.upon_value]
      go_wp2_with (go_at_call 117; refine (plays_B HALL.out HSZ.out (HS1.out _) (HS2.out.below (HBB.out HB2.out)) HGD.out HW.out HPL.out HN.out).mono ?_; rintro e w3 ⟨hb3, hpost⟩; obtain ⟨v, X, -, hX, rfl, hslv, hfr⟩ := hpost.resolve_right (fun h => by have := h.1; rw [HK0.out] at this; cases this); obtain ⟨A3, c3, rfl⟩ : ∃ A3 c3, v = .slice A3 (U.encs (rap X R)).length c3 := (by obtain ⟨A, c, e, -⟩ := hslv; exact ⟨A, c, e⟩); have hcv := hslv; unfold u8s at hcv; have HCV := Hd.mk hcv; have HSLV := Hd.mk hslv; have HFR := Hd.mk hfr; have HX := Hd.mk hX; have HB3 := Hd.mk hb3; have hn3 := (Blk.new w2 196 #[.int .i64 1, .string ⟨#[]⟩, .slice none 0 0, .slice none 0 0]).below (bytes_below _ 5 ⟨(U.encs R).toArray⟩) (by simp) |>.below hb3 (by simp [Lib.bytesWorld_size]; omega); have HN3 := Hd.mk hn3; obtain ⟨y0, y1, y2, y3⟩ := four_cells hn3; have yf := hn3.frozen; have yl := hn3.lt; have hx3 : Below w2.heap.size w2 w3 := bstep (HBW.out w2) hb3; have HX3 := Hd.mk hx3; clear z0 z1 z2 z3 zf zl; have hcm := hX.sizes.2; have hlen : (U.encs (rap X R)).length = bl (rap X R) := rfl; have hi : ¬ ((8000 : Int) < ((U.encs (rap X R)).length : Int)) := (by have := HOV.out; omega); clear hb3 hpost hX hslv hfr hn3 hx3 hcm hlen)
      rw [conv_bytes Tryz.underlying184 Tryz.underlying5 Tryz.underlying9 HCV.out]
      simp only [Result.andThen]
      rw [Oper.upon_value]
      go_wp2_with (go_at_call 67; refine (shtext_any (u := 1) (R := rap X R) (t := U.encs (rap X R)) (vh := .slice none 0 0) (vr := .slice none 0 0) (rap_all HX.out.allP HALL.out) (by decide) (by have h1 := HX.out.sizes.2; have h2 := HBND.out; omega) (HN3.out.set_ 1 (.string ⟨(U.encs (rap X R)).toArray⟩)) ⟨fun _ => ⟨rfl, rfl, rfl⟩, fun h => by omega, fun h => by omega⟩).mono ?_; rintro e w5 ⟨rfl, hb5⟩; have hn5 := (HN3.out.set_ 1 (.string ⟨(U.encs (rap X R)).toArray⟩)).below hb5 (by simp; exact yl); have ho5 : Only (fun _ => False) w w5 := ((Only.of_below (bstep HB2.out HX3.out) : Only (fun _ => False) w w3).setCell (p := ⟨w2.heap.size, 1, none⟩) (.inr HB2.out.size) (.string ⟨(U.encs (rap X R)).toArray⟩)).then_below hb5; have HO5 := Hd.mk ho5; have HV5 : Hd (ShV w5 1 (rap X R) _ _ _) := ⟨ShV.below (⟨fun _ => ⟨rfl, rfl, rfl⟩, fun h => by omega, fun h => by omega⟩ : ShV _ 1 (rap X R) (U.encs (rap X R)) (.slice none 0 0) (.slice none 0 0)) hb5⟩; have hk5 := HK.out.only ho5 (fun h => h); have HK5 := Hd.mk hk5; clear y0 y1 y2 y3 yf yl; obtain ⟨y0, y1, y2, y3⟩ := four_cells hn5; have yf := hn5.frozen; have yl := hn5.lt; obtain ⟨z0, z1, z2, z3⟩ := four_cells hk5; have zf := hk5.frozen; have zl := hk5.lt; clear hb5 hn5 ho5 hk5)
      go_ret
      have hcm : bl (rap X R) ≤ 8000 := by have := HX.out.sizes.2; have := HOV.out; omega
      have hkf := (((HK5.out.set_ 0 (.int .i64 1)).set_ 1 (.string ⟨(U.encs (rap X R)).toArray⟩)).set_ 2 (.slice none 0 0)).set_ 3 (.slice none 0 0)
      have hof : Only (fun k => k = f) w5 _ := ((((Only.refl (fun k => k = f) w5).setCell (p := ⟨f, 0, none⟩) (.inl rfl) (.int .i64 1)).setCell (p := ⟨f, 1, none⟩) (.inl rfl) (.string ⟨(U.encs (rap X R)).toArray⟩)).setCell (p := ⟨f, 2, none⟩) (.inl rfl) (.slice none 0 0)).setCell (p := ⟨f, 3, none⟩) (.inl rfl) (.slice none 0 0)
      exact ⟨(HO5.out.mono (fun _ _ h => h.elim)).trans hof, fun h => absurd HC.out h, fun _ => .inr ⟨HK0.out, X, HX.out, .inr ⟨hcm, rfl, rap_all HX.out.allP HALL.out, by decide, hcm, _, _, _, hkf, HV5.out.frs (Frs.nil _) (Frs.nil _) hof (fun k e => by subst e; have := HK2.out.lt; simp; omega), Frs.nil _, Frs.nil _⟩⟩⟩
  · have HK0 := Hd.mk hk0
    clear hs hg hc h0 h1 h2 hsl hk hgd hw hpl hn hv hk0
    go_enter Tryz.func76, Tryz.ntmps76
    go_wp2_with (first
      | (go_at_call 66; refine HLN.out.mono ?_; rintro e w1 ⟨rfl, hb1⟩; have HB1 := Hd.mk hb1; clear hb1)
      | (go_at_call 92; refine (ocheck_calls (HG.out.below HB1.out) (HS2.out.below HB1.out) HP.out HM.out).mono ?_; rintro e w2 ⟨⟨ev, rfl, -, hev⟩, hb2⟩; rw [HC.out] at hev; rw [show errOf 0 = Value.nilIface from rfl] at hev; obtain rfl := hev; have hx2 := bstep HB1.out hb2; have HB2 := Hd.mk hx2; have hk2 := HK.out.below hx2 HK.out.lt; have HK2 := Hd.mk hk2; obtain ⟨z0, z1, z2, z3⟩ := four_cells hk2; have zf := hk2.frozen; have zl := hk2.lt; clear hb2 hx2 hk2))
    rw [conv_str]
    simp only [Result.andThen]
    rw [Oper.upon_value]
    go_wp2_with (go_at_call 117; refine (plays_B HALL.out HSZ.out (HS1.out _) (HS2.out.below (HBB.out HB2.out)) HGD.out HW.out HPL.out HN.out).mono ?_; rintro e w3 ⟨hb3, hpost⟩; obtain ⟨ht10, rfl⟩ := hpost.resolve_left (fun h => by obtain ⟨v, X, h, -⟩ := h; exact HK0.out h); unfold errno; have HCV : Hd (Sl w3 1 (.slice none 0 0) 0 (([] : U.Bs).map fun c => .int .u8 (c.toNat : Int))) := ⟨Sl.nil w3 1⟩; have hn3 := (Blk.new w2 196 #[.int .i64 1, .string ⟨#[]⟩, .slice none 0 0, .slice none 0 0]).below (bytes_below _ 5 ⟨(U.encs R).toArray⟩) (by simp) |>.below hb3 (by simp [Lib.bytesWorld_size]; omega); have HN3 := Hd.mk hn3; obtain ⟨y0, y1, y2, y3⟩ := four_cells hn3; have yf := hn3.frozen; have yl := hn3.lt; have hx3 : Below w2.heap.size w2 w3 := bstep (HBW.out w2) hb3; have HX3 := Hd.mk hx3; clear z0 z1 z2 z3 zf zl; have ho4 : Only (fun _ => False) w _ := (Only.of_below (bstep HB2.out hx3) : Only (fun _ => False) w w3).setCell (p := ⟨w2.heap.size, 1, none⟩) (.inr HB2.out.size) (.string ⟨#[]⟩); have HO4 := Hd.mk ho4; have HT10 := Hd.mk ht10; clear hpost hb3 hn3 hx3 ho4 ht10)
    rw [conv_bytes Tryz.underlying184 Tryz.underlying5 Tryz.underlying9 HCV.out]
    simp only [Result.andThen]
    rw [Oper.upon_value]
    go_wp2_with fail
    go_ret
    exact ⟨HO4.out.mono (fun _ _ h => h.elim), fun h => absurd HC.out h, fun _ => .inl ⟨HT10.out, rfl, HO4.out.below (Nat.le_refl _) (fun _ _ h => h)⟩⟩
end Go.Proofs.YtdgdajnbkfmijaaGreatDoor
