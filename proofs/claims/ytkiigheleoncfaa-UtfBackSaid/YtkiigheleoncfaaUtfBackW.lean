/- The walk of the law UtfBack. -/
import Derived.Test.YtkiigheleoncfaaUtfF
import Derived.Test.YtkiigheleoncfaaUtfK
import Derived.Test.YtkiigheleoncfaaCnEq
import Derived.Deep.QuietTactic
import Derived.BigQuiet
namespace Go.Proofs.Ytkiigheleoncfaa
open Go.RowKit
set_option maxRecDepth 100000
attribute [local go_sem ↓] Go.wp_at_zero Go.wp_at_succ
theorem wrapEq (a : Int) : IntKind.i64.wrap a = wrap64 a := IntWalk.i64_left a
theorem factSp : U.Sp [97, 240, 159, 152, 128, 10] [97, 128512, 10] [] := by
  have := U.sp_encs (rs := [97, 128512, 10]) (fun r hr => by
    simp at hr
    rcases hr with rfl | rfl | rfl
    · exact U.right_iff.2 (by omega)
    · exact U.right_iff.2 (by omega)
    · exact U.right_iff.2 (by omega))
  have e : U.encs [97, 128512, 10] = [97, 240, 159, 152, 128, 10] := by decide +kernel
  rwa [e] at this
theorem factCnt : cnt [97, 128512, 10] = ⟨6, 4, 3, 1⟩ := by kernel_rfl
set_option maxHeartbeats 2000000 in
theorem read_calls (w : World) : Calls Try.prog 9 #[] w fun e w' => e = .returned (.bool true) ∧ Below w.heap.size w w' := by
  go_enter Try.func9, Try.ntmps9
  go_wp2_with fail
  refine (count_calls factSp _ (by simp)).mono ?_
  rintro e w1 ⟨hb1, hok, _⟩
  obtain rfl := hok rfl
  rw [factCnt]
  go_wp2_with fail
  go_ret
  exact ⟨rfl, hb1.alloc hb1.size _⟩
set_option maxHeartbeats 4000000 in
theorem utfBack_x {s : U.Bs} {rs : List Int} {rest : U.Bs} {l h lp lr hp hr : List Int} {v1 v2 : Value} {n1 n2 : Nat} (hs : U.Sp s rs rest) (hl : Tp l lp lr) (hh : U.Hp h hp hr) (hin : U.InH h) (w : World)
    (hsl : Sl w 1 v1 n1 (i32s l)) (hsh : Sl w 1 v2 n2 (u16s h)) (b1 : s.length ≤ 500) (b2 : n1 ≤ 200) (b3 : n2 ≤ 200) :
    Calls Try.prog 4 #[.string ⟨s.toArray⟩, v1, v2] w fun e w' => e = .returned (.bool true) ∧ Below w.heap.size w w' := by
  have HSL := Hd.mk hsl
  have HSH := Hd.mk hsh
  have HS := Hd.mk hs
  have HL := Hd.mk hl
  have HH := Hd.mk hh
  have HIN := Hd.mk hin
  obtain ⟨A1, c1, rfl, _⟩ := hsl
  obtain ⟨A2, c2, rfl, _⟩ := hsh
  clear hs hl hh hin
  go_enter Try.func4, Try.ntmps4
  go_wp2_with (go_at_call 9; refine (read_calls _).mono ?_; rintro e w1 ⟨rfl, hb1⟩)
  refine (runes_calls HS.out _ (by omega)).mono ?_
  rintro e w2 ⟨hb2, hok2, hbad2⟩
  by_cases hrest : rest = []
  focus
    obtain ⟨v3, rfl, hsl3⟩ := hok2 hrest
    have HSL3 := Hd.mk hsl3
    obtain ⟨A3, c3, rfl, _⟩ := hsl3
    clear hok2 hbad2
    have HB2 := Hd.mk (hb1.trans (hb2.mono hb1.size))
    clear hb1 hb2
    go_wp2_with fail
    refine (halves_calls HS.out _ (by omega)).mono ?_
    rintro e w3 ⟨hb3, hok3, hbad3⟩
    obtain ⟨v4, rfl, hsl4⟩ := hok3 hrest
    have HSL4 := Hd.mk hsl4
    obtain ⟨A4, c4, rfl, _⟩ := hsl4
    clear hok3 hbad3
    have HSL3' := Hd.mk (HSL3.out.below hb3)
    have HB3 := Hd.mk (HB2.out.trans (hb3.mono HB2.out.size))
    clear hb3 HB2 HSL3
    go_wp2_with fail
    refine (count_calls HS.out _ (by omega)).mono ?_
    rintro e w4 ⟨hb4, hok4, hbad4⟩
    obtain rfl := hok4 hrest
    clear hok4 hbad4
    have HSL3 := Hd.mk (HSL3'.out.below hb4)
    have HSL4' := Hd.mk (HSL4.out.below hb4)
    have HB4 := Hd.mk (HB3.out.trans (hb4.mono HB3.out.size))
    clear hb4 HB3 HSL3' HSL4
    go_wp2_with fail
    go_quiet (fail)
    go_wp2_with fail
    have tp : Tp rs rs [] := ⟨HS.out.all, by simp, fun r t h => by cases h⟩
    have hpp : U.Hp (U.hvs rs) rs [] := ⟨HS.out.all, by simp, trivial⟩
    have hii : U.InH (U.hvs rs) := U.hvs_in HS.out.all
    have hes : U.encs rs = s := by have := HS.out.eq; rw [hrest, List.append_nil] at this; exact this.symm
    have hll : rs.length ≤ 500 := by
      have h1 := U.len_le_off rs
      have h2 := HS.out.length
      omega
    have hlh : (U.hvs rs).length ≤ 1000 := by have := U.hvs_len_le rs; omega
    have TP := Hd.mk tp
    have HPP := Hd.mk (And.intro hpp hii)
    have HES := Hd.mk hes
    clear tp hpp hii hes
    refine (text_calls TP.out (HSL3.out.below (by repeat (first | exact Below.refl _ _ | exact ex_drew (by assumption) | apply ex_drew | apply ex_drewN | apply ex_alloc))) (by omega)).mono ?_
    rintro e w5 ⟨hb5, hok5, _⟩
    obtain rfl := hok5 rfl
    rw [HES.out]
    have hb5' : Below w4.heap.size w4 w5 := bstep (by repeat (first | exact Below.refl _ _ | exact ex_drew (by assumption) | apply ex_drew | apply ex_drewN | apply ex_alloc)) hb5
    have HSL4 := Hd.mk (HSL4'.out.below hb5')
    have HB5 := Hd.mk (bstep HB4.out hb5')
    clear hok5 hb5 hb5' HSL4' HB4
    go_wp2_with fail
    refine (fromHalves_calls HPP.out.1 HPP.out.2 HSL4.out (by omega)).mono ?_
    rintro e w6 ⟨hb6, hok6, _⟩
    obtain rfl := hok6 rfl
    rw [HES.out]
    have HB6 := Hd.mk (bstep HB5.out hb6)
    clear hok6 hb6 HB5 HSL4
    go_wp2_with fail
    refine calls_gen (w0 := w) HB6.out ?_
    intro W hbW
    clear HB6 TP HPP HES HSL3 hll hlh hrest
  rotate_left
  focus
    obtain ⟨g2, rfl, _⟩ := hbad2 hrest
    clear hok2 hbad2
    have HB2 := Hd.mk (hb1.trans (hb2.mono hb1.size))
    clear hb1 hb2
    go_wp2_with fail
    refine (halves_calls HS.out _ (by omega)).mono ?_
    rintro e w3 ⟨hb3, hok3, hbad3⟩
    obtain ⟨g3, rfl, _⟩ := hbad3 hrest
    clear hok3 hbad3
    have HB3 := Hd.mk (bstep HB2.out hb3)
    clear hb3 HB2
    go_wp2_with fail
    refine (count_calls HS.out _ (by omega)).mono ?_
    rintro e w4 ⟨hb4, hok4, hbad4⟩
    obtain ⟨g4, rfl, _⟩ := hbad4 hrest
    clear hok4 hbad4
    have HB4 := Hd.mk (bstep HB3.out hb4)
    clear hb4 HB3
    go_wp2_with fail
    go_quiet (fail)
    go_wp2_with fail
    refine calls_gen (w0 := w) (by repeat (first | exact HB4.out | apply ex_drewN | apply ex_alloc)) ?_
    intro W hbW
    clear HB4 hrest
  rotate_left
  all_goals
    by_cases hlr : lr = []
    focus
      have hlp : lp = l := by have := HL.out.eq; rw [hlr, List.append_nil] at this; exact this.symm
      have hal : U.AllR l := by rw [← hlp]; exact HL.out.all
      have hln : l.length = n1 := by have := HSL.out.len; simpa [i32s] using this
      have hel : (U.encs l).length ≤ 800 := by have := enc_len_le l; omega
      refine (text_calls HL.out (HSL.out.below hbW) (by omega)).mono ?_
      rintro e w7 ⟨hb7, hok7, _⟩
      obtain rfl := hok7 hlr
      rw [hlp]
      have HB7 := Hd.mk (bstep hbW hb7)
      have HLN := Hd.mk hln
      have HAL := Hd.mk hal
      clear hb7 hbW hok7 hlp hlr hal hln
      go_wp2_with fail
      refine (runes_calls (U.sp_encs HAL.out) _ (by omega)).mono ?_
      rintro e w8 ⟨hb8, hok8, _⟩
      obtain ⟨v8, rfl, hs8⟩ := hok8 rfl
      rw [HLN.out] at hs8
      have HB8 := Hd.mk (bstep HB7.out hb8)
      have HS8 := Hd.mk hs8
      have HSL8 := Hd.mk (HSL.out.below HB8.out)
      obtain ⟨A8, c8, rfl, _⟩ := hs8
      clear hb8 hok8 HB7
      go_wp2_with fail
      go_loopw [21] (fun i wr => ∃ k : Nat, k ≤ n1 ∧ i = .int .i64 k ∧ Below w8.heap.size w8 wr) (fun i _ => n1 - (intOf i).toNat)
      case atStart => exact ⟨0, by omega, rfl, Below.refl _ _⟩
      case round =>
        obtain ⟨k, hk, rfl, hbel⟩ := hrel
        have HB := Hd.mk hbel
        by_cases hkn : k < n1
        · obtain ⟨ad, c', u, hv, _, hu, hc⟩ := (HS8.out.below hbel).at_ hkn
          cases hv
          obtain ⟨ad2, c2', u2, hv2, _, hu2, hc2⟩ := (HSL8.out.below hbel).at_ hkn
          cases hv2
          rw [hu] at hu2
          cases hu2
          have hlk : k < l.length := by rw [HLN.out]; exact hkn
          have hu3 : u = .int .i32 l[k] := by
            unfold i32s at hu
            rw [List.getElem?_map, List.getElem?_eq_getElem hlk] at hu
            simpa using hu.symm
          subst hu3
          generalize l[k] = r at hc hc2
          have hk1 : (k : Int) < n1 := by omega
          have hk0 : (0 : Int) ≤ (k : Int) := by omega
          clear hu hbel hlk
          go_wp2_with fail
          go_quiet (fail)
          go_wp2_with fail
          refine ⟨⟨k + 1, by omega, by go_num, ?_⟩, ?_⟩
          · exact ⟨HB.out.os, HB.out.tape, HB.out.output, HB.out.size, HB.out.block⟩
          · simp only [intOf]; omega
        · obtain rfl : k = n1 := by omega
          clear hbel
          go_wp2_with fail
          have hbW : Below w.heap.size w wr := bstep HB8.out HB.out
          clear HB8 HB HS8 HSL8
          by_cases hhr : hr = []
          · have hhp : U.hvs hp = h := by have := HH.out.eq; rw [hhr, List.append_nil] at this; exact this.symm
            have hln2 : h.length = n2 := by have := HSH.out.len; simpa [u16s] using this
            have hle2 : (U.encs hp).length ≤ 800 := by have := U.encs_le_hvs hp; rw [hhp] at this; omega
            refine (fromHalves_calls HH.out HIN.out (HSH.out.below hbW) (by omega)).mono ?_
            rintro e w9 ⟨hb9, hok9, _⟩
            obtain rfl := hok9 hhr
            have HB9 := Hd.mk (bstep hbW hb9)
            have HHP := Hd.mk hhp
            have HLN2 := Hd.mk hln2
            clear hb9 hbW hok9 hhp hhr hln2
            go_wp2_with fail
            refine (halves_calls (U.sp_encs HH.out.all) _ (by omega)).mono ?_
            rintro e w10 ⟨hb10, hok10, _⟩
            obtain ⟨v10, rfl, hs10⟩ := hok10 rfl
            rw [HHP.out, HLN2.out] at hs10
            have HB10 := Hd.mk (bstep HB9.out hb10)
            have HS10 := Hd.mk hs10
            have HSH10 := Hd.mk (HSH.out.below HB10.out)
            obtain ⟨A10, c10, rfl, _⟩ := hs10
            clear hb10 hok10 HB9
            go_wp2_with fail
            go_loopw [26] (fun i wr => ∃ k : Nat, k ≤ n2 ∧ i = .int .i64 k ∧ Below w10.heap.size w10 wr) (fun i _ => n2 - (intOf i).toNat)
            case atStart => exact ⟨0, by omega, rfl, Below.refl _ _⟩
            case round =>
              obtain ⟨k2, hk2, rfl, hbel⟩ := hrel
              have HB := Hd.mk hbel
              by_cases hkn : k2 < n2
              · obtain ⟨ad, c', u, hv, _, hu, hc⟩ := (HS10.out.below hbel).at_ hkn
                cases hv
                obtain ⟨ad2, c2', u2, hv2, _, hu2, hc2⟩ := (HSH10.out.below hbel).at_ hkn
                cases hv2
                rw [hu] at hu2
                cases hu2
                have hlk : k2 < h.length := by rw [HLN2.out]; exact hkn
                have hu3 : u = .int .u16 h[k2] := by
                  unfold u16s at hu
                  rw [List.getElem?_map, List.getElem?_eq_getElem hlk] at hu
                  simpa using hu.symm
                subst hu3
                generalize h[k2] = r at hc hc2
                have hk1 : (k2 : Int) < n2 := by omega
                have hk0 : (0 : Int) ≤ (k2 : Int) := by omega
                clear hu hbel hlk
                go_wp2_with fail
                go_quiet (fail)
                go_wp2_with fail
                refine ⟨⟨k2 + 1, by omega, by go_num, ?_⟩, ?_⟩
                · exact ⟨HB.out.os, HB.out.tape, HB.out.output, HB.out.size, HB.out.block⟩
                · simp only [intOf]; omega
              · obtain rfl : k2 = n2 := by omega
                clear hbel
                go_wp2_with fail
                go_ret
                exact ⟨rfl, bstep HB10.out HB.out⟩
          · refine (fromHalves_calls HH.out HIN.out (HSH.out.below hbW) (by omega)).mono ?_
            rintro e w9 ⟨hb9, _, hbad9⟩
            obtain ⟨g9, rfl, _⟩ := hbad9 hhr
            have HB9 := Hd.mk (bstep hbW hb9)
            clear hb9 hbW hbad9 hhr
            go_wp2_with fail
            go_ret
            exact ⟨rfl, HB9.out⟩
    rotate_left
    focus
      refine (text_calls HL.out (HSL.out.below hbW) (by omega)).mono ?_
      rintro e w7 ⟨hb7, _, hbad7⟩
      obtain ⟨g7, rfl, _⟩ := hbad7 hlr
      have HB7 := Hd.mk (bstep hbW hb7)
      clear hb7 hbW hbad7 hlr
      go_wp2_with fail
      have hbW := HB7.out
      clear HB7
      by_cases hhr : hr = []
      · have hhp : U.hvs hp = h := by have := HH.out.eq; rw [hhr, List.append_nil] at this; exact this.symm
        have hln2 : h.length = n2 := by have := HSH.out.len; simpa [u16s] using this
        have hle2 : (U.encs hp).length ≤ 800 := by have := U.encs_le_hvs hp; rw [hhp] at this; omega
        refine (fromHalves_calls HH.out HIN.out (HSH.out.below hbW) (by omega)).mono ?_
        rintro e w9 ⟨hb9, hok9, _⟩
        obtain rfl := hok9 hhr
        have HB9 := Hd.mk (bstep hbW hb9)
        have HHP := Hd.mk hhp
        have HLN2 := Hd.mk hln2
        clear hb9 hbW hok9 hhp hhr hln2
        go_wp2_with fail
        refine (halves_calls (U.sp_encs HH.out.all) _ (by omega)).mono ?_
        rintro e w10 ⟨hb10, hok10, _⟩
        obtain ⟨v10, rfl, hs10⟩ := hok10 rfl
        rw [HHP.out, HLN2.out] at hs10
        have HB10 := Hd.mk (bstep HB9.out hb10)
        have HS10 := Hd.mk hs10
        have HSH10 := Hd.mk (HSH.out.below HB10.out)
        obtain ⟨A10, c10, rfl, _⟩ := hs10
        clear hb10 hok10 HB9
        go_wp2_with fail
        go_loopw [26] (fun i wr => ∃ k : Nat, k ≤ n2 ∧ i = .int .i64 k ∧ Below w10.heap.size w10 wr) (fun i _ => n2 - (intOf i).toNat)
        case atStart => exact ⟨0, by omega, rfl, Below.refl _ _⟩
        case round =>
          obtain ⟨k2, hk2, rfl, hbel⟩ := hrel
          have HB := Hd.mk hbel
          by_cases hkn : k2 < n2
          · obtain ⟨ad, c', u, hv, _, hu, hc⟩ := (HS10.out.below hbel).at_ hkn
            cases hv
            obtain ⟨ad2, c2', u2, hv2, _, hu2, hc2⟩ := (HSH10.out.below hbel).at_ hkn
            cases hv2
            rw [hu] at hu2
            cases hu2
            have hlk : k2 < h.length := by rw [HLN2.out]; exact hkn
            have hu3 : u = .int .u16 h[k2] := by
              unfold u16s at hu
              rw [List.getElem?_map, List.getElem?_eq_getElem hlk] at hu
              simpa using hu.symm
            subst hu3
            generalize h[k2] = r at hc hc2
            have hk1 : (k2 : Int) < n2 := by omega
            have hk0 : (0 : Int) ≤ (k2 : Int) := by omega
            clear hu hbel hlk
            go_wp2_with fail
            go_quiet (fail)
            go_wp2_with fail
            refine ⟨⟨k2 + 1, by omega, by go_num, ?_⟩, ?_⟩
            · exact ⟨HB.out.os, HB.out.tape, HB.out.output, HB.out.size, HB.out.block⟩
            · simp only [intOf]; omega
          · obtain rfl : k2 = n2 := by omega
            clear hbel
            go_wp2_with fail
            go_ret
            exact ⟨rfl, bstep HB10.out HB.out⟩
      · refine (fromHalves_calls HH.out HIN.out (HSH.out.below hbW) (by omega)).mono ?_
        rintro e w9 ⟨hb9, _, hbad9⟩
        obtain ⟨g9, rfl, _⟩ := hbad9 hhr
        have HB9 := Hd.mk (bstep hbW hb9)
        clear hb9 hbW hbad9 hhr
        go_wp2_with fail
        go_ret
        exact ⟨rfl, HB9.out⟩
end Go.Proofs.Ytkiigheleoncfaa
