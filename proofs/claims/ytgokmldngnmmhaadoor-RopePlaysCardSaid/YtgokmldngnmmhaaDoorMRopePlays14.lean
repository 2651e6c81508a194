/- Several texts of the proof, one behind the other: RopePlaysW, PtEq, RowO. -/
import Derived.Test.YtgokmldngnmmhaaDoorMRopePlays11
import Derived.Test.YtgokmldngnmmhaaDoorMRopePlays13
import Derived.Deep.RegionHeld3
import Derived.Lib.QuietBelow
import Derived.Laws.StructEq
import Derived.Test.YtgokmldngnmmhaaDoorMRopePlays1
import Derived.ProofKit
import Derived.OpenShut
/- The walk of the law RopePlays. -/
namespace Go.Proofs.YtgokmldngnmmhaaDoor
open Go.RowKit Go.Sort
set_option maxRecDepth 100000
set_option maxHeartbeats 8000000 in
theorem ropePlays_walk {l : List PT} {v : Value} {n : Nat} {s : U.Bs} {unit at_ line : Int} {w : World} (hg : Hdl w) (hsl : Sl w 3 v n (opv l)) (hl : l.length = n) (hp : ∀ p ∈ l, p.put.length ≤ maxLen) (hsm : s.length ≤ maxLen) :
    Calls Tryd.prog 13 #[.string ⟨s.toArray⟩, v, .int .i64 unit, .int .i64 at_, .int .i64 line] w fun e w' => e = .returned (.bool true) ∧ Below w.heap.size w w' := by
  have HG := Hd.mk hg
  have HSL := Hd.mk hsl
  have HP := Hd.mk hp
  have HLN := Hd.mk hl
  obtain ⟨A, cc, rfl, -⟩ := hsl
  unfold maxLen at hsm
  clear hg hp hl
  by_cases h1 : 3000 < s.length
  · have hi : (3000 : Int) < (s.length : Int) := by omega
    go_enter Tryd.func13, Tryd.ntmps13
    go_wp2_with fail
    go_ret
    exact ⟨rfl, Below.refl _ _⟩
  by_cases h2 : 40 < n
  · have hi : ¬ ((3000 : Int) < (s.length : Int)) := by omega
    have hj : (40 : Int) < (n : Int) := by omega
    go_enter Tryd.func13, Tryd.ntmps13
    go_wp2_with fail
    go_ret
    exact ⟨rfl, Below.refl _ _⟩
  have hi : ¬ ((3000 : Int) < (s.length : Int)) := by omega
  have hj : ¬ ((40 : Int) < (n : Int)) := by omega
  obtain ⟨rs, rest, hsp⟩ := U.sp_exists s
  have HSP := Hd.mk hsp
  have HC := fun w1 => Hd.mk (rcount_calls hsp w1 (by omega))
  have HNEW := fun w1 => Hd.mk (new_calls hsp w1 (by omega))
  have hls := hsp.length
  by_cases hr : rest = []
  · subst hr
    obtain rfl : s = U.encs rs := by have := hsp.eq; simpa using this
    have hbl : bl rs ≤ 3000 := by have : (U.encs rs).length = bl rs := rfl; omega
    have HBL := Hd.mk hbl
    clear hsp h1 h2 hls hbl
    go_enter Tryd.func13, Tryd.ntmps13
    go_wp2_with (first
      | (go_at_call 40; refine (HNEW _).out.mono ?_; rintro e w1 ⟨hb, -, -, h3⟩; obtain ⟨p, t, rfl, hat, hgd, hrr, hp1, hp2⟩ := h3 rfl (by have := HBL.out; omega); have HI1 : Hd (RpI w w1 p t) := ⟨⟨hat, hgd, hb, hp1, hp2⟩⟩; have HRR := Hd.mk hrr; clear hb h3 hat hgd hrr hp1 hp2)
      | (go_at_call 18; refine (HC _).out.mono ?_; rintro e w2 ⟨hb2, he, -⟩; obtain rfl := he rfl; have HI2 := Hd.mk (HI1.out.then_below (bstep hb2 (ex_alloc (ex_alloc (Below.refl _ _) (.cells #[.int .i64 (cnt rs).b, .int .i64 (cnt rs).h, .int .i64 (cnt rs).r, .int .i64 (cnt rs).l] 36)) (.cells #[.int .i64 0, .int .i64 (-1)] 25)))); clear hb2 he; unfold fltV))
    go_loopg [0, 15] (n + 1) (fun gk sv iv wr => ∃ (i : Nat) (t : RT), sv = .string ⟨(U.encs t.runes).toArray⟩ ∧ iv = .int .i64 (i : Int) ∧ i + gk = n + 1 ∧ RpI w wr p t)
    case atStart => exact ⟨0, t, by rw [HRR.out], rfl, by omega, HI2.out⟩
    case round =>
      obtain ⟨i, t, rfl, rfl, hi, hI⟩ := hrel
      obtain ⟨R, hR⟩ : ∃ R, R = t.runes := ⟨_, rfl⟩
      have HR := Hd.mk hR
      have HI := Hd.mk hI
      have HALL : Hd (U.AllR R) := ⟨by rw [hR]; exact hI.good.all⟩
      have HSZ : Hd (bl R ≤ 8000) := ⟨by rw [hR]; exact hI.good.sz⟩
      have HGK := Hd.mk hi
      rw [← hR]
      clear hR hI hi HI1 HI2 HRR HSP HC HNEW
      by_cases hin : i ≤ n
      · have hi2 : (i : Int) ≤ (n : Int) := by omega
        cases i with
        | zero =>
          have HCR := fun w1 => Hd.mk (rcount_calls (U.sp_encs HALL.out) w1 (by have : (U.encs R).length = bl R := rfl; have := HSZ.out; omega))
          go_wp2_with (first
            | (go_at_call 18; refine (HCR _).out.mono ?_; rintro e w6 ⟨hb6, he, -⟩; obtain rfl := he rfl; have HI6 := Hd.mk (HI.out.then_below hb6); clear hb6 he; unfold fltV))
          have HCB : Hd (CnBlk ((w6.alloc (.cells #[.int .i64 (cnt R).b, .int .i64 (cnt R).h, .int .i64 (cnt R).r, .int .i64 (cnt R).l] 36)).alloc (.cells #[.int .i64 0, .int .i64 (-1)] 25)) w6.heap.size (cnt R)) := ⟨CnBlk.below (heap_alloc_new w6 _) (ex_alloc (Below.refl _ _) _) (by simp only [World.size_alloc]; omega)⟩
          have HIq := Hd.mk (HI6.out.then_below (ex_alloc (ex_alloc (Below.refl _ _) (.cells #[.int .i64 (cnt R).b, .int .i64 (cnt R).h, .int .i64 (cnt R).r, .int .i64 (cnt R).l] 36)) (.cells #[.int .i64 0, .int .i64 (-1)] 25)))
          generalize (w6.alloc (.cells #[.int .i64 (cnt R).b, .int .i64 (cnt R).h, .int .i64 (cnt R).r, .int .i64 (cnt R).l] 36)).alloc (.cells #[.int .i64 0, .int .i64 (-1)] 25) = wq at HCB HIq ⊢
          generalize w6.heap.size = gq at HCB ⊢
          obtain ⟨q0, q1, q2, q3⟩ := HCB.out.cells
          have kq0 := cell_regrown q0
          have kq1 := cell_regrown q1
          have kq2 := cell_regrown q2
          have kq3 := cell_regrown q3
          obtain ⟨hi, hhi⟩ : ∃ x, x = t.high := ⟨_, rfl⟩
          obtain ⟨mm, hmm⟩ : ∃ x, x = t.nodes.length := ⟨_, rfl⟩
          obtain ⟨nb, hnb⟩ : ∃ x, x = bl R := ⟨_, rfl⟩
          have hnb0 : Hd (nb = bl R) := ⟨hnb⟩
          have hmn := HIq.out.good.many
          rw [← HR.out, ← hmm, ← hnb] at hmn
          have hnb2 : nb ≤ 8000 := by rw [hnb]; exact HSZ.out
          have hlen : (U.encs R).length = nb := by rw [hnb]; rfl
          have hT : ∀ d os, Calls Tryd.prog 43 #[.pointer (some ⟨p, 0, none⟩)] (grow (redrawn wq d) os) fun e w'' => e = .returned (.string ⟨(U.encs R).toArray⟩) ∧ ∃ p : Regrown, w'' = grow (redrawn wq p.d) p.os := fun d os => by rw [HR.out]; exact Calls.regrown_of (rtx_calls (HIq.out.at_.below (below_regrown wq d os)) (by rw [← HR.out, ← hnb]; omega))
          have hC : ∀ d os, Calls Tryd.prog 61 #[.pointer (some ⟨p, 0, none⟩)] (grow (redrawn wq d) os) fun e w'' => e = .returned (.agg #[.int .i64 (cnt R).b, .int .i64 (cnt R).h, .int .i64 (cnt R).r, .int .i64 (cnt R).l]) ∧ ∃ p : Regrown, w'' = grow (redrawn wq p.d) p.os := fun d os => by rw [HR.out]; exact Calls.regrown_of (counts_calls (HIq.out.at_.below (below_regrown wq d os)))
          have hH : ∀ d os, Calls Tryd.prog 64 #[.pointer (some ⟨p, 0, none⟩)] (grow (redrawn wq d) os) fun e w'' => e = .returned (.int .i64 hi) ∧ ∃ p : Regrown, w'' = grow (redrawn wq p.d) p.os := fun d os => by rw [hhi]; exact Calls.regrown_of (rhigh_calls (HIq.out.at_.below (below_regrown wq d os)))
          have hM : ∀ d os, Calls Tryd.prog 65 #[.pointer (some ⟨p, 0, none⟩)] (grow (redrawn wq d) os) fun e w'' => e = .returned (.int .i64 mm) ∧ ∃ p : Regrown, w'' = grow (redrawn wq p.d) p.os := fun d os => by rw [hmm]; exact Calls.regrown_of (many_calls (HIq.out.at_.below (below_regrown wq d os)) (by omega))
          have hL : ∀ d os, Calls Tryd.prog 63 #[.int .i64 hi, .int .i64 mm] (grow (redrawn wq d) os) fun e w'' => e = .returned (.bool true) ∧ ∃ p : Regrown, w'' = grow (redrawn wq p.d) p.os := fun d os => by
            refine (low_calls (by rw [hhi, hmm]; exact low_of HIq.out.good.bal) (by omega) _).mono ?_
            rintro e w2 ⟨rfl, rfl⟩
            exact ⟨rfl, ⟨d, os⟩, rfl⟩
          have m1 : ¬ ((nb : Int) < (mm : Int)) := by omega
          have m2 : IntKind.i64.wrap ((mm : Int) * 32) = (mm : Int) * 32 := by rw [IntKind.wrap_i64] <;> omega
          have m3 : ¬ ((mm : Int) * 32 < (nb : Int)) := by omega
          clear hhi hmm hnb
          refine wp_region_quiet_below (by kernel_rfl) (by kernel_rfl) ?_
          repeat (quiet_step (first | (go_at_call 43; exact hT _ _) | (go_at_call 61; exact hC _ _) | (go_at_call 64; exact hH _ _) | (go_at_call 65; exact hM _ _) | (go_at_call 63; exact hL _ _)))
          refine wpQuiet_nil ?_
          rintro _ ⟨⟨dq, oq⟩, rfl⟩
          have HIz := Hd.mk (HIq.out.then_below (below_regrown wq dq oq))
          generalize grow (redrawn wq dq) oq = wz at HIz ⊢
          clear hT hC hH hM hL kq0 kq1 kq2 kq3 q0 q1 q2 q3 m1 m2 m3 HCB hmn HI6
          have HNB := hnb0
          by_cases g1 : nb < 400
          · have g2 : (nb : Int) < 400 := by omega
            go_wp2_with fail
            refine (rahead_calls (u := unit) (at_ := at_) HALL.out (by rw [← HNB.out]; omega)).mono ?_
            rintro e w8 ⟨hb8, c1, k1, rfl, ha1⟩
            rw [Cn.v_eq]
            have HA1 := Hd.mk ha1
            clear ha1
            obtain ⟨er1, her1⟩ : ∃ x, x = erV k1 := ⟨_, rfl⟩
            have HER1 := Hd.mk her1
            clear her1
            have HX8 : Hd (CnBlk (w8.alloc (.cells #[.int .i64 c1.b, .int .i64 c1.h, .int .i64 c1.r, .int .i64 c1.l] 36)) w8.heap.size c1) := ⟨heap_alloc_new w8 _⟩
            have HI8 := Hd.mk (HIz.out.then_below (bstep hb8 (ex_alloc (Below.refl _ _) (.cells #[.int .i64 c1.b, .int .i64 c1.h, .int .i64 c1.r, .int .i64 c1.l] 36))))
            clear hb8
            go_wp2_with fail
            generalize w8.alloc (.cells #[.int .i64 c1.b, .int .i64 c1.h, .int .i64 c1.r, .int .i64 c1.l] 36) = a8 at HX8 HI8 ⊢
            generalize w8.heap.size = g8 at HX8 ⊢
            have HX8_8 := HX8
            refine (ahead_calls (u := unit) (at_ := at_) HI8.out.at_ HI8.out.good).mono ?_
            rintro e w9 ⟨hb9, c2, er2, rfl, ha2⟩
            rw [← HR.out] at ha2
            obtain ⟨rfl, rfl⟩ : c2 = c1 ∧ er2 = er1 := by rw [HER1.out]; exact AheadR.unique ha2 HA1.out
            clear ha2
            rw [Cn.v_eq]
            have HX9 : Hd (CnBlk (w9.alloc (.cells #[.int .i64 c2.b, .int .i64 c2.h, .int .i64 c2.r, .int .i64 c2.l] 36)) w9.heap.size c2) := ⟨heap_alloc_new w9 _⟩
            have HX8_9 := Hd.mk (HX8_8.out.below (bstep hb9 (ex_alloc (Below.refl _ _) (.cells #[.int .i64 c2.b, .int .i64 c2.h, .int .i64 c2.r, .int .i64 c2.l] 36))) HX8_8.out.lt)
            have HI9 := Hd.mk (HI8.out.then_below (bstep hb9 (ex_alloc (Below.refl _ _) (.cells #[.int .i64 c2.b, .int .i64 c2.h, .int .i64 c2.r, .int .i64 c2.l] 36))))
            clear hb9
            go_wp2_with fail
            generalize w9.alloc (.cells #[.int .i64 c2.b, .int .i64 c2.h, .int .i64 c2.r, .int .i64 c2.l] 36) = a9 at HX9 HI9 HX8_9 ⊢
            generalize w9.heap.size = g9 at HX9 ⊢
            have HX9_9 := HX9
            refine (rline_calls (n := line) HALL.out (by rw [← HNB.out]; omega)).mono ?_
            rintro e w10 ⟨hb10, c3, k3, rfl, ha3⟩
            rw [Cn.v_eq]
            have HA3 := Hd.mk ha3
            clear ha3
            obtain ⟨er3, her3⟩ : ∃ x, x = erV k3 := ⟨_, rfl⟩
            have HER3 := Hd.mk her3
            clear her3
            have HX10 : Hd (CnBlk (w10.alloc (.cells #[.int .i64 c3.b, .int .i64 c3.h, .int .i64 c3.r, .int .i64 c3.l] 36)) w10.heap.size c3) := ⟨heap_alloc_new w10 _⟩
            have HX8_10 := Hd.mk (HX8_9.out.below (bstep hb10 (ex_alloc (Below.refl _ _) (.cells #[.int .i64 c3.b, .int .i64 c3.h, .int .i64 c3.r, .int .i64 c3.l] 36))) HX8_9.out.lt)
            have HX9_10 := Hd.mk (HX9_9.out.below (bstep hb10 (ex_alloc (Below.refl _ _) (.cells #[.int .i64 c3.b, .int .i64 c3.h, .int .i64 c3.r, .int .i64 c3.l] 36))) HX9_9.out.lt)
            have HI10 := Hd.mk (HI9.out.then_below (bstep hb10 (ex_alloc (Below.refl _ _) (.cells #[.int .i64 c3.b, .int .i64 c3.h, .int .i64 c3.r, .int .i64 c3.l] 36))))
            clear hb10
            go_wp2_with fail
            generalize w10.alloc (.cells #[.int .i64 c3.b, .int .i64 c3.h, .int .i64 c3.r, .int .i64 c3.l] 36) = a10 at HX10 HI10 HX8_10 HX9_10 ⊢
            generalize w10.heap.size = g10 at HX10 ⊢
            have HX10_10 := HX10
            refine (line_calls (n := line) HI10.out.at_ HI10.out.good).mono ?_
            rintro e w11 ⟨hb11, c4, er4, rfl, ha4⟩
            rw [← HR.out] at ha4
            obtain ⟨rfl, rfl⟩ : c4 = c3 ∧ er4 = er3 := by rw [HER3.out]; exact LineR.unique ha4 HA3.out
            clear ha4
            rw [Cn.v_eq]
            have HX11 : Hd (CnBlk (w11.alloc (.cells #[.int .i64 c4.b, .int .i64 c4.h, .int .i64 c4.r, .int .i64 c4.l] 36)) w11.heap.size c4) := ⟨heap_alloc_new w11 _⟩
            have HX8_11 := Hd.mk (HX8_10.out.below (bstep hb11 (ex_alloc (Below.refl _ _) (.cells #[.int .i64 c4.b, .int .i64 c4.h, .int .i64 c4.r, .int .i64 c4.l] 36))) HX8_10.out.lt)
            have HX9_11 := Hd.mk (HX9_10.out.below (bstep hb11 (ex_alloc (Below.refl _ _) (.cells #[.int .i64 c4.b, .int .i64 c4.h, .int .i64 c4.r, .int .i64 c4.l] 36))) HX9_10.out.lt)
            have HX10_11 := Hd.mk (HX10_10.out.below (bstep hb11 (ex_alloc (Below.refl _ _) (.cells #[.int .i64 c4.b, .int .i64 c4.h, .int .i64 c4.r, .int .i64 c4.l] 36))) HX10_10.out.lt)
            have HI11 := Hd.mk (HI10.out.then_below (bstep hb11 (ex_alloc (Below.refl _ _) (.cells #[.int .i64 c4.b, .int .i64 c4.h, .int .i64 c4.r, .int .i64 c4.l] 36))))
            clear hb11
            go_wp2_with fail
            generalize w11.alloc (.cells #[.int .i64 c4.b, .int .i64 c4.h, .int .i64 c4.r, .int .i64 c4.l] 36) = a11 at HX11 HI11 HX8_11 HX9_11 HX10_11 ⊢
            generalize w11.heap.size = g11 at HX11 ⊢
            have HX11_11 := HX11
            have HV1 : Hd (ErrV a11 er2 k1 (-1)) := ⟨by rw [HER1.out]; exact errV_erV _ _⟩
            have HV3 : ∀ W, Hd (ErrV W er4 k3 (-1)) := fun W => ⟨by rw [HER3.out]; exact errV_erV _ _⟩
            go_wp2_with (first
              | (go_at_call_of 30 (Value.int .i64 k1); refine (bare_true HV1.out (HG.out.below HI11.out.below)).mono ?_; rintro e w12 ⟨rfl, hb12⟩; obtain ⟨x0, x1, x2, x3⟩ := (HX8_11.out.below hb12 HX8_11.out.lt).cells; obtain ⟨y0, y1, y2, y3⟩ := (HX9_11.out.below hb12 HX9_11.out.lt).cells; have HI12 := Hd.mk (HI11.out.then_below hb12); have HB12 := Hd.mk hb12; clear hb12)
              | (go_at_call_of 30 (Value.int .i64 k3); refine (bare_true (HV3 _).out (HG.out.below HI12.out.below)).mono ?_; rintro e w13 ⟨rfl, hb13⟩; have hb13' := bstep HB12.out hb13; obtain ⟨x0, x1, x2, x3⟩ := (HX10_11.out.below hb13' HX10_11.out.lt).cells; obtain ⟨y0, y1, y2, y3⟩ := (HX11_11.out.below hb13' HX11_11.out.lt).cells; have HI13 := Hd.mk (HI12.out.then_below hb13); clear hb13 hb13'))
            go_roundg (n + 1 - (0 + 1))
            case rel => exact ⟨0 + 1, t, by rw [HR.out], by simp, by omega, HI13.out⟩
            case measure => have := HGK.out; omega
          · have g2 : ¬ ((nb : Int) < 400) := by omega
            by_cases g3 : 0 = n
            · have g4 : ((0 : Int) == (n : Int)) = true := by rw [beq_iff_eq]; omega
              clear g3
              go_wp2_with fail
              refine (rahead_calls (u := unit) (at_ := at_) HALL.out (by rw [← HNB.out]; omega)).mono ?_
              rintro e w8 ⟨hb8, c1, k1, rfl, ha1⟩
              rw [Cn.v_eq]
              have HA1 := Hd.mk ha1
              clear ha1
              obtain ⟨er1, her1⟩ : ∃ x, x = erV k1 := ⟨_, rfl⟩
              have HER1 := Hd.mk her1
              clear her1
              have HX8 : Hd (CnBlk (w8.alloc (.cells #[.int .i64 c1.b, .int .i64 c1.h, .int .i64 c1.r, .int .i64 c1.l] 36)) w8.heap.size c1) := ⟨heap_alloc_new w8 _⟩
              have HI8 := Hd.mk (HIz.out.then_below (bstep hb8 (ex_alloc (Below.refl _ _) (.cells #[.int .i64 c1.b, .int .i64 c1.h, .int .i64 c1.r, .int .i64 c1.l] 36))))
              clear hb8
              go_wp2_with fail
              generalize w8.alloc (.cells #[.int .i64 c1.b, .int .i64 c1.h, .int .i64 c1.r, .int .i64 c1.l] 36) = a8 at HX8 HI8 ⊢
              generalize w8.heap.size = g8 at HX8 ⊢
              have HX8_8 := HX8
              refine (ahead_calls (u := unit) (at_ := at_) HI8.out.at_ HI8.out.good).mono ?_
              rintro e w9 ⟨hb9, c2, er2, rfl, ha2⟩
              rw [← HR.out] at ha2
              obtain ⟨rfl, rfl⟩ : c2 = c1 ∧ er2 = er1 := by rw [HER1.out]; exact AheadR.unique ha2 HA1.out
              clear ha2
              rw [Cn.v_eq]
              have HX9 : Hd (CnBlk (w9.alloc (.cells #[.int .i64 c2.b, .int .i64 c2.h, .int .i64 c2.r, .int .i64 c2.l] 36)) w9.heap.size c2) := ⟨heap_alloc_new w9 _⟩
              have HX8_9 := Hd.mk (HX8_8.out.below (bstep hb9 (ex_alloc (Below.refl _ _) (.cells #[.int .i64 c2.b, .int .i64 c2.h, .int .i64 c2.r, .int .i64 c2.l] 36))) HX8_8.out.lt)
              have HI9 := Hd.mk (HI8.out.then_below (bstep hb9 (ex_alloc (Below.refl _ _) (.cells #[.int .i64 c2.b, .int .i64 c2.h, .int .i64 c2.r, .int .i64 c2.l] 36))))
              clear hb9
              go_wp2_with fail
              generalize w9.alloc (.cells #[.int .i64 c2.b, .int .i64 c2.h, .int .i64 c2.r, .int .i64 c2.l] 36) = a9 at HX9 HI9 HX8_9 ⊢
              generalize w9.heap.size = g9 at HX9 ⊢
              have HX9_9 := HX9
              refine (rline_calls (n := line) HALL.out (by rw [← HNB.out]; omega)).mono ?_
              rintro e w10 ⟨hb10, c3, k3, rfl, ha3⟩
              rw [Cn.v_eq]
              have HA3 := Hd.mk ha3
              clear ha3
              obtain ⟨er3, her3⟩ : ∃ x, x = erV k3 := ⟨_, rfl⟩
              have HER3 := Hd.mk her3
              clear her3
              have HX10 : Hd (CnBlk (w10.alloc (.cells #[.int .i64 c3.b, .int .i64 c3.h, .int .i64 c3.r, .int .i64 c3.l] 36)) w10.heap.size c3) := ⟨heap_alloc_new w10 _⟩
              have HX8_10 := Hd.mk (HX8_9.out.below (bstep hb10 (ex_alloc (Below.refl _ _) (.cells #[.int .i64 c3.b, .int .i64 c3.h, .int .i64 c3.r, .int .i64 c3.l] 36))) HX8_9.out.lt)
              have HX9_10 := Hd.mk (HX9_9.out.below (bstep hb10 (ex_alloc (Below.refl _ _) (.cells #[.int .i64 c3.b, .int .i64 c3.h, .int .i64 c3.r, .int .i64 c3.l] 36))) HX9_9.out.lt)
              have HI10 := Hd.mk (HI9.out.then_below (bstep hb10 (ex_alloc (Below.refl _ _) (.cells #[.int .i64 c3.b, .int .i64 c3.h, .int .i64 c3.r, .int .i64 c3.l] 36))))
              clear hb10
              go_wp2_with fail
              generalize w10.alloc (.cells #[.int .i64 c3.b, .int .i64 c3.h, .int .i64 c3.r, .int .i64 c3.l] 36) = a10 at HX10 HI10 HX8_10 HX9_10 ⊢
              generalize w10.heap.size = g10 at HX10 ⊢
              have HX10_10 := HX10
              refine (line_calls (n := line) HI10.out.at_ HI10.out.good).mono ?_
              rintro e w11 ⟨hb11, c4, er4, rfl, ha4⟩
              rw [← HR.out] at ha4
              obtain ⟨rfl, rfl⟩ : c4 = c3 ∧ er4 = er3 := by rw [HER3.out]; exact LineR.unique ha4 HA3.out
              clear ha4
              rw [Cn.v_eq]
              have HX11 : Hd (CnBlk (w11.alloc (.cells #[.int .i64 c4.b, .int .i64 c4.h, .int .i64 c4.r, .int .i64 c4.l] 36)) w11.heap.size c4) := ⟨heap_alloc_new w11 _⟩
              have HX8_11 := Hd.mk (HX8_10.out.below (bstep hb11 (ex_alloc (Below.refl _ _) (.cells #[.int .i64 c4.b, .int .i64 c4.h, .int .i64 c4.r, .int .i64 c4.l] 36))) HX8_10.out.lt)
              have HX9_11 := Hd.mk (HX9_10.out.below (bstep hb11 (ex_alloc (Below.refl _ _) (.cells #[.int .i64 c4.b, .int .i64 c4.h, .int .i64 c4.r, .int .i64 c4.l] 36))) HX9_10.out.lt)
              have HX10_11 := Hd.mk (HX10_10.out.below (bstep hb11 (ex_alloc (Below.refl _ _) (.cells #[.int .i64 c4.b, .int .i64 c4.h, .int .i64 c4.r, .int .i64 c4.l] 36))) HX10_10.out.lt)
              have HI11 := Hd.mk (HI10.out.then_below (bstep hb11 (ex_alloc (Below.refl _ _) (.cells #[.int .i64 c4.b, .int .i64 c4.h, .int .i64 c4.r, .int .i64 c4.l] 36))))
              clear hb11
              go_wp2_with fail
              generalize w11.alloc (.cells #[.int .i64 c4.b, .int .i64 c4.h, .int .i64 c4.r, .int .i64 c4.l] 36) = a11 at HX11 HI11 HX8_11 HX9_11 HX10_11 ⊢
              generalize w11.heap.size = g11 at HX11 ⊢
              have HX11_11 := HX11
              have HV1 : Hd (ErrV a11 er2 k1 (-1)) := ⟨by rw [HER1.out]; exact errV_erV _ _⟩
              have HV3 : ∀ W, Hd (ErrV W er4 k3 (-1)) := fun W => ⟨by rw [HER3.out]; exact errV_erV _ _⟩
              go_wp2_with (first
                | (go_at_call_of 30 (Value.int .i64 k1); refine (bare_true HV1.out (HG.out.below HI11.out.below)).mono ?_; rintro e w12 ⟨rfl, hb12⟩; obtain ⟨x0, x1, x2, x3⟩ := (HX8_11.out.below hb12 HX8_11.out.lt).cells; obtain ⟨y0, y1, y2, y3⟩ := (HX9_11.out.below hb12 HX9_11.out.lt).cells; have HI12 := Hd.mk (HI11.out.then_below hb12); have HB12 := Hd.mk hb12; clear hb12)
                | (go_at_call_of 30 (Value.int .i64 k3); refine (bare_true (HV3 _).out (HG.out.below HI12.out.below)).mono ?_; rintro e w13 ⟨rfl, hb13⟩; have hb13' := bstep HB12.out hb13; obtain ⟨x0, x1, x2, x3⟩ := (HX10_11.out.below hb13' HX10_11.out.lt).cells; obtain ⟨y0, y1, y2, y3⟩ := (HX11_11.out.below hb13' HX11_11.out.lt).cells; have HI13 := Hd.mk (HI12.out.then_below hb13); clear hb13 hb13'))
              go_roundg (n + 1 - (0 + 1))
              case rel => exact ⟨0 + 1, t, by rw [HR.out], by simp, by omega, HI13.out⟩
              case measure => have := HGK.out; omega
            · have g4 : ((0 : Int) == (n : Int)) = false := by rw [beq_eq_false_iff_ne]; omega
              clear g3
              go_wp2_with fail
              go_roundg (n + 1 - (0 + 1))
              case rel => exact ⟨0 + 1, t, by rw [HR.out], by simp, by omega, HIz.out⟩
              case measure => have := HGK.out; omega
        | succ j =>
          have hjn : j < n := by omega
          obtain ⟨b, o, c9, hv9, hbw, x0, x1, x2⟩ := HSL.out.part (k := j) hjn (by have := HLN.out; omega)
          obtain ⟨q, hq⟩ : ∃ q, q = l[j]'(by have := HLN.out; omega) := ⟨_, rfl⟩
          rw [← hq] at x0 x1 x2
          have HQP : Hd (q.put.length ≤ maxLen) := ⟨by rw [hq]; exact HP.out _ (List.getElem_mem _)⟩
          cases hv9
          rw [← HI.out.below.cell (p := ⟨b, o + j * 3, none⟩) hbw] at x0
          rw [← HI.out.below.cell (p := ⟨b, o + j * 3 + 1, none⟩) hbw] at x1
          rw [← HI.out.below.cell (p := ⟨b, o + j * 3 + 2, none⟩) hbw] at x2
          have hbr : b < wr.heap.size := by have := HI.out.below.size; omega
          obtain ⟨qk, qd, qp⟩ := q
          have y0 : (0 : Int) ≤ (j : Int) := by omega
          have y1 : (j : Int) < (n : Int) := by omega
          have y2 : IntKind.i64.wrap ((j : Int) + 1 - 1) = (j : Int) := by rw [IntKind.wrap_i64] <;> omega
          have y3 : (0 : Int) < (j : Int) + 1 := by omega
          have y4 : wrap64 (j : Int) = (j : Int) := by unfold wrap64; omega
          have hqp := HQP.out
          unfold maxLen at hqp
          have HJ : Hd (j < n ∧ n ≤ 40) := ⟨by omega⟩
          clear hq HQP hin hjn hj
          by_cases hb3 : 3000 < qp.length
          · have hb4 : (3000 : Int) < (qp.length : Int) := by omega
            go_wp2_with fail
            go_ret
            exact ⟨rfl, ex_alloc HI.out.below _⟩
          · have hb4 : ¬ ((3000 : Int) < (qp.length : Int)) := by omega
            obtain ⟨prs, rest2, hsp2⟩ := U.sp_exists qp
            obtain ⟨R', k, pl, hS⟩ := splR_some R HALL.out qk qd prs rest2
            have HS := Hd.mk hS
            have HSP2 := Hd.mk hsp2
            have hql : qp.length ≤ 1000000 := by omega
            have HRS := fun w1 => Hd.mk (rsplice_calls (w := w1) hS HALL.out hsp2 HSZ.out hql)
            have HALL' := Hd.mk (hS.all HALL.out hsp2.all)
            have HSZ' := Hd.mk (hS.size HSZ.out)
            clear hS hsp2
            have hcut : Blk (wr.alloc (.cells #[.int .i64 qk, .int .i64 qd, .string ⟨qp.toArray⟩] 117)) wr.heap.size 117 #[.int .i64 qk, .int .i64 qd, .string ⟨qp.toArray⟩] := Blk.new _ _ _
            have HCUT := Hd.mk hcut
            have HIc := Hd.mk (HI.out.then_below (ex_alloc (Below.refl _ _) (.cells #[.int .i64 qk, .int .i64 qd, .string ⟨qp.toArray⟩] 117)))
            have HPg : Hd (p < wr.heap.size ∧ ∀ i ∈ t.blocks, i < wr.heap.size) := ⟨HI.out.at_.blk.lt, fun i hi => HI.out.at_.tree.lt i hi⟩
            clear hcut
            go_wp2_with fail
            clear x0 x1 x2
            refine (HRS _).out.mono ?_
            rintro e w3 ⟨rfl, hb3⟩
            unfold fltV
            have hcut3 := HCUT.out.below hb3 HCUT.out.lt
            have hgg : wr.heap.size < w3.heap.size := hcut3.lt
            have HCUT4 := Hd.mk (hcut3.below (ex_alloc (Below.refl _ _) (.cells #[.int .i64 k, .int .i64 pl] 25)) hcut3.lt)
            have HI4 := Hd.mk (HIc.out.then_below (bstep hb3 (ex_alloc (Below.refl _ _) (.cells #[.int .i64 k, .int .i64 pl] 25))))
            have HFL : Hd (Blk (w3.alloc (.cells #[.int .i64 k, .int .i64 pl] 25)) w3.heap.size 25 #[.int .i64 k, .int .i64 pl]) := ⟨Blk.new _ _ _⟩
            have HPf : Hd (p ≠ w3.heap.size ∧ w3.heap.size ∉ t.blocks) := ⟨by have := HPg.out.1; omega, fun e => by have := HPg.out.2 _ e; omega⟩
            have HPc : Hd (p ≠ wr.heap.size ∧ wr.heap.size ∉ t.blocks) := ⟨by have := HPg.out.1; omega, fun e => by have := HPg.out.2 _ e; omega⟩
            clear hb3 hcut3 hgg HRS HCUT HIc
            go_wp2_with fail
            generalize w3.alloc (.cells #[.int .i64 k, .int .i64 pl] 25) = w4 at HCUT4 HI4 HFL ⊢
            generalize w3.heap.size = gf at HFL HPf ⊢
            generalize wr.heap.size = gc at HCUT4 HPc ⊢
            have hfc := flt_cells HFL.out
            have hcc := cut_cells HCUT4.out
            have HI5 : Hd (RpI w w4.drew p t) := ⟨HI4.out.then_below (ex_drew (Below.refl _ _))⟩
            have HS2 : Hd (SplR t.runes qk qd prs rest2 R' k pl) := ⟨by rw [← HR.out]; exact HS.out⟩
            have HSPL := fun (u : Unit) => Hd.mk (splice_all HI5.out.at_ HI5.out.good HS2.out HSP2.out hql)
            have hall0 := And.intro hcc.1 (And.intro hcc.2.1 (And.intro hcc.2.2 (And.intro hfc.1 hfc.2)))
            clear hfc hcc
            go_region_held3 (fun w' => w'.cell? ⟨gc, 0, none⟩ = some (.int .i64 qk) ∧ w'.cell? ⟨gc, 1, none⟩ = some (.int .i64 qd) ∧ w'.cell? ⟨gc, 2, none⟩ = some (.string ⟨qp.toArray⟩) ∧ w'.cell? ⟨gf, 0, none⟩ = some (.int .i64 k) ∧ w'.cell? ⟨gf, 1, none⟩ = some (.int .i64 pl)) (first | assumption | exact hall0)
              (first
                | (go_at_call 42; refine (HSPL ()).out.mono ?_; rintro e w5 ⟨v5, t5, rfl, hev, hsw⟩; have HEV := Hd.mk hev; have HSW := Hd.mk hsw; have hzc := blk_split (HCUT4.out.below (ex_drew (Below.refl _ _)) HCUT4.out.lt) hsw HPc.out; have hzf := blk_split (HFL.out.below (ex_drew (Below.refl _ _)) HFL.out.lt) hsw HPf.out; have HZC := Hd.mk hzc; have HZF := Hd.mk hzf; have HI6 := Hd.mk (HI5.out.splice hsw); have hall5 := And.intro (cut_cells hzc).1 (And.intro (cut_cells hzc).2.1 (And.intro (cut_cells hzc).2.2 (flt_cells hzf))); clear hev hsw hzc hzf)
                | (go_at_call 19; refine (is_true HEV.out (HG.out.below HI6.out.below)).mono ?_; rintro e w6 ⟨rfl, hb6⟩; have HI7 := Hd.mk (HI6.out.then_below hb6); have hzc := HZC.out.below hb6 HZC.out.lt; have hzf := HZF.out.below hb6 HZF.out.lt; have hall6 := And.intro (cut_cells hzc).1 (And.intro (cut_cells hzc).2.1 (And.intro (cut_cells hzc).2.2 (flt_cells hzf))); clear hb6 hzc hzf))
            have HR' : Hd (R' = t5.runes) := ⟨HSW.out.runes.symm⟩
            clear hall0 HSPL HCUT4 HFL HI4 HI5 HZC HZF HEV HSW HPf HPc HPg HR HALL HSZ HS HS2 HSP2
            generalize w6 = w7 at HI7 ⊢
            have HCR := fun w1 => Hd.mk (rcount_calls (U.sp_encs HALL'.out) w1 (by have : (U.encs R').length = bl R' := rfl; have := HSZ'.out; omega))
            go_wp2_with (first
              | (go_at_call 18; refine (HCR _).out.mono ?_; rintro e w6 ⟨hb6, he, -⟩; obtain rfl := he rfl; have HI6 := Hd.mk (HI7.out.then_below hb6); clear hb6 he; unfold fltV))
            have HCB : Hd (CnBlk ((w6.alloc (.cells #[.int .i64 (cnt R').b, .int .i64 (cnt R').h, .int .i64 (cnt R').r, .int .i64 (cnt R').l] 36)).alloc (.cells #[.int .i64 0, .int .i64 (-1)] 25)) w6.heap.size (cnt R')) := ⟨CnBlk.below (heap_alloc_new w6 _) (ex_alloc (Below.refl _ _) _) (by simp only [World.size_alloc]; omega)⟩
            have HIq := Hd.mk (HI6.out.then_below (ex_alloc (ex_alloc (Below.refl _ _) (.cells #[.int .i64 (cnt R').b, .int .i64 (cnt R').h, .int .i64 (cnt R').r, .int .i64 (cnt R').l] 36)) (.cells #[.int .i64 0, .int .i64 (-1)] 25)))
            generalize (w6.alloc (.cells #[.int .i64 (cnt R').b, .int .i64 (cnt R').h, .int .i64 (cnt R').r, .int .i64 (cnt R').l] 36)).alloc (.cells #[.int .i64 0, .int .i64 (-1)] 25) = wq at HCB HIq ⊢
            generalize w6.heap.size = gq at HCB ⊢
            obtain ⟨q0, q1, q2, q3⟩ := HCB.out.cells
            have kq0 := cell_regrown q0
            have kq1 := cell_regrown q1
            have kq2 := cell_regrown q2
            have kq3 := cell_regrown q3
            obtain ⟨hi, hhi⟩ : ∃ x, x = t5.high := ⟨_, rfl⟩
            obtain ⟨mm, hmm⟩ : ∃ x, x = t5.nodes.length := ⟨_, rfl⟩
            obtain ⟨nb, hnb⟩ : ∃ x, x = bl R' := ⟨_, rfl⟩
            have hnb0 : Hd (nb = bl R') := ⟨hnb⟩
            have hmn := HIq.out.good.many
            rw [← HR'.out, ← hmm, ← hnb] at hmn
            have hnb2 : nb ≤ 8000 := by rw [hnb]; exact HSZ'.out
            have hlen : (U.encs R').length = nb := by rw [hnb]; rfl
            have hT : ∀ d os, Calls Tryd.prog 43 #[.pointer (some ⟨p, 0, none⟩)] (grow (redrawn wq d) os) fun e w'' => e = .returned (.string ⟨(U.encs R').toArray⟩) ∧ ∃ p : Regrown, w'' = grow (redrawn wq p.d) p.os := fun d os => by rw [HR'.out]; exact Calls.regrown_of (rtx_calls (HIq.out.at_.below (below_regrown wq d os)) (by rw [← HR'.out, ← hnb]; omega))
            have hC : ∀ d os, Calls Tryd.prog 61 #[.pointer (some ⟨p, 0, none⟩)] (grow (redrawn wq d) os) fun e w'' => e = .returned (.agg #[.int .i64 (cnt R').b, .int .i64 (cnt R').h, .int .i64 (cnt R').r, .int .i64 (cnt R').l]) ∧ ∃ p : Regrown, w'' = grow (redrawn wq p.d) p.os := fun d os => by rw [HR'.out]; exact Calls.regrown_of (counts_calls (HIq.out.at_.below (below_regrown wq d os)))
            have hH : ∀ d os, Calls Tryd.prog 64 #[.pointer (some ⟨p, 0, none⟩)] (grow (redrawn wq d) os) fun e w'' => e = .returned (.int .i64 hi) ∧ ∃ p : Regrown, w'' = grow (redrawn wq p.d) p.os := fun d os => by rw [hhi]; exact Calls.regrown_of (rhigh_calls (HIq.out.at_.below (below_regrown wq d os)))
            have hM : ∀ d os, Calls Tryd.prog 65 #[.pointer (some ⟨p, 0, none⟩)] (grow (redrawn wq d) os) fun e w'' => e = .returned (.int .i64 mm) ∧ ∃ p : Regrown, w'' = grow (redrawn wq p.d) p.os := fun d os => by rw [hmm]; exact Calls.regrown_of (many_calls (HIq.out.at_.below (below_regrown wq d os)) (by omega))
            have hL : ∀ d os, Calls Tryd.prog 63 #[.int .i64 hi, .int .i64 mm] (grow (redrawn wq d) os) fun e w'' => e = .returned (.bool true) ∧ ∃ p : Regrown, w'' = grow (redrawn wq p.d) p.os := fun d os => by
              refine (low_calls (by rw [hhi, hmm]; exact low_of HIq.out.good.bal) (by omega) _).mono ?_
              rintro e w2 ⟨rfl, rfl⟩
              exact ⟨rfl, ⟨d, os⟩, rfl⟩
            have m1 : ¬ ((nb : Int) < (mm : Int)) := by omega
            have m2 : IntKind.i64.wrap ((mm : Int) * 32) = (mm : Int) * 32 := by rw [IntKind.wrap_i64] <;> omega
            have m3 : ¬ ((mm : Int) * 32 < (nb : Int)) := by omega
            clear hhi hmm hnb
            refine wp_region_quiet_below (by kernel_rfl) (by kernel_rfl) ?_
            repeat (quiet_step (first | (go_at_call 43; exact hT _ _) | (go_at_call 61; exact hC _ _) | (go_at_call 64; exact hH _ _) | (go_at_call 65; exact hM _ _) | (go_at_call 63; exact hL _ _)))
            refine wpQuiet_nil ?_
            rintro _ ⟨⟨dq, oq⟩, rfl⟩
            have HIz := Hd.mk (HIq.out.then_below (below_regrown wq dq oq))
            generalize grow (redrawn wq dq) oq = wz at HIz ⊢
            clear hT hC hH hM hL kq0 kq1 kq2 kq3 q0 q1 q2 q3 m1 m2 m3 HCB hmn HI6
            have HNB := hnb0
            by_cases g1 : nb < 400
            · have g2 : (nb : Int) < 400 := by omega
              go_wp2_with fail
              refine (rahead_calls (u := unit) (at_ := at_) HALL'.out (by rw [← HNB.out]; omega)).mono ?_
              rintro e w8 ⟨hb8, c1, k1, rfl, ha1⟩
              rw [Cn.v_eq]
              have HA1 := Hd.mk ha1
              clear ha1
              obtain ⟨er1, her1⟩ : ∃ x, x = erV k1 := ⟨_, rfl⟩
              have HER1 := Hd.mk her1
              clear her1
              have HX8 : Hd (CnBlk (w8.alloc (.cells #[.int .i64 c1.b, .int .i64 c1.h, .int .i64 c1.r, .int .i64 c1.l] 36)) w8.heap.size c1) := ⟨heap_alloc_new w8 _⟩
              have HI8 := Hd.mk (HIz.out.then_below (bstep hb8 (ex_alloc (Below.refl _ _) (.cells #[.int .i64 c1.b, .int .i64 c1.h, .int .i64 c1.r, .int .i64 c1.l] 36))))
              clear hb8
              go_wp2_with fail
              generalize w8.alloc (.cells #[.int .i64 c1.b, .int .i64 c1.h, .int .i64 c1.r, .int .i64 c1.l] 36) = a8 at HX8 HI8 ⊢
              generalize w8.heap.size = g8 at HX8 ⊢
              have HX8_8 := HX8
              refine (ahead_calls (u := unit) (at_ := at_) HI8.out.at_ HI8.out.good).mono ?_
              rintro e w9 ⟨hb9, c2, er2, rfl, ha2⟩
              rw [← HR'.out] at ha2
              obtain ⟨rfl, rfl⟩ : c2 = c1 ∧ er2 = er1 := by rw [HER1.out]; exact AheadR.unique ha2 HA1.out
              clear ha2
              rw [Cn.v_eq]
              have HX9 : Hd (CnBlk (w9.alloc (.cells #[.int .i64 c2.b, .int .i64 c2.h, .int .i64 c2.r, .int .i64 c2.l] 36)) w9.heap.size c2) := ⟨heap_alloc_new w9 _⟩
              have HX8_9 := Hd.mk (HX8_8.out.below (bstep hb9 (ex_alloc (Below.refl _ _) (.cells #[.int .i64 c2.b, .int .i64 c2.h, .int .i64 c2.r, .int .i64 c2.l] 36))) HX8_8.out.lt)
              have HI9 := Hd.mk (HI8.out.then_below (bstep hb9 (ex_alloc (Below.refl _ _) (.cells #[.int .i64 c2.b, .int .i64 c2.h, .int .i64 c2.r, .int .i64 c2.l] 36))))
              clear hb9
              go_wp2_with fail
              generalize w9.alloc (.cells #[.int .i64 c2.b, .int .i64 c2.h, .int .i64 c2.r, .int .i64 c2.l] 36) = a9 at HX9 HI9 HX8_9 ⊢
              generalize w9.heap.size = g9 at HX9 ⊢
              have HX9_9 := HX9
              refine (rline_calls (n := line) HALL'.out (by rw [← HNB.out]; omega)).mono ?_
              rintro e w10 ⟨hb10, c3, k3, rfl, ha3⟩
              rw [Cn.v_eq]
              have HA3 := Hd.mk ha3
              clear ha3
              obtain ⟨er3, her3⟩ : ∃ x, x = erV k3 := ⟨_, rfl⟩
              have HER3 := Hd.mk her3
              clear her3
              have HX10 : Hd (CnBlk (w10.alloc (.cells #[.int .i64 c3.b, .int .i64 c3.h, .int .i64 c3.r, .int .i64 c3.l] 36)) w10.heap.size c3) := ⟨heap_alloc_new w10 _⟩
              have HX8_10 := Hd.mk (HX8_9.out.below (bstep hb10 (ex_alloc (Below.refl _ _) (.cells #[.int .i64 c3.b, .int .i64 c3.h, .int .i64 c3.r, .int .i64 c3.l] 36))) HX8_9.out.lt)
              have HX9_10 := Hd.mk (HX9_9.out.below (bstep hb10 (ex_alloc (Below.refl _ _) (.cells #[.int .i64 c3.b, .int .i64 c3.h, .int .i64 c3.r, .int .i64 c3.l] 36))) HX9_9.out.lt)
              have HI10 := Hd.mk (HI9.out.then_below (bstep hb10 (ex_alloc (Below.refl _ _) (.cells #[.int .i64 c3.b, .int .i64 c3.h, .int .i64 c3.r, .int .i64 c3.l] 36))))
              clear hb10
              go_wp2_with fail
              generalize w10.alloc (.cells #[.int .i64 c3.b, .int .i64 c3.h, .int .i64 c3.r, .int .i64 c3.l] 36) = a10 at HX10 HI10 HX8_10 HX9_10 ⊢
              generalize w10.heap.size = g10 at HX10 ⊢
              have HX10_10 := HX10
              refine (line_calls (n := line) HI10.out.at_ HI10.out.good).mono ?_
              rintro e w11 ⟨hb11, c4, er4, rfl, ha4⟩
              rw [← HR'.out] at ha4
              obtain ⟨rfl, rfl⟩ : c4 = c3 ∧ er4 = er3 := by rw [HER3.out]; exact LineR.unique ha4 HA3.out
              clear ha4
              rw [Cn.v_eq]
              have HX11 : Hd (CnBlk (w11.alloc (.cells #[.int .i64 c4.b, .int .i64 c4.h, .int .i64 c4.r, .int .i64 c4.l] 36)) w11.heap.size c4) := ⟨heap_alloc_new w11 _⟩
              have HX8_11 := Hd.mk (HX8_10.out.below (bstep hb11 (ex_alloc (Below.refl _ _) (.cells #[.int .i64 c4.b, .int .i64 c4.h, .int .i64 c4.r, .int .i64 c4.l] 36))) HX8_10.out.lt)
              have HX9_11 := Hd.mk (HX9_10.out.below (bstep hb11 (ex_alloc (Below.refl _ _) (.cells #[.int .i64 c4.b, .int .i64 c4.h, .int .i64 c4.r, .int .i64 c4.l] 36))) HX9_10.out.lt)
              have HX10_11 := Hd.mk (HX10_10.out.below (bstep hb11 (ex_alloc (Below.refl _ _) (.cells #[.int .i64 c4.b, .int .i64 c4.h, .int .i64 c4.r, .int .i64 c4.l] 36))) HX10_10.out.lt)
              have HI11 := Hd.mk (HI10.out.then_below (bstep hb11 (ex_alloc (Below.refl _ _) (.cells #[.int .i64 c4.b, .int .i64 c4.h, .int .i64 c4.r, .int .i64 c4.l] 36))))
              clear hb11
              go_wp2_with fail
              generalize w11.alloc (.cells #[.int .i64 c4.b, .int .i64 c4.h, .int .i64 c4.r, .int .i64 c4.l] 36) = a11 at HX11 HI11 HX8_11 HX9_11 HX10_11 ⊢
              generalize w11.heap.size = g11 at HX11 ⊢
              have HX11_11 := HX11
              have HV1 : Hd (ErrV a11 er2 k1 (-1)) := ⟨by rw [HER1.out]; exact errV_erV _ _⟩
              have HV3 : ∀ W, Hd (ErrV W er4 k3 (-1)) := fun W => ⟨by rw [HER3.out]; exact errV_erV _ _⟩
              go_wp2_with (first
                | (go_at_call_of 30 (Value.int .i64 k1); refine (bare_true HV1.out (HG.out.below HI11.out.below)).mono ?_; rintro e w12 ⟨rfl, hb12⟩; obtain ⟨x0, x1, x2, x3⟩ := (HX8_11.out.below hb12 HX8_11.out.lt).cells; obtain ⟨y0, y1, y2, y3⟩ := (HX9_11.out.below hb12 HX9_11.out.lt).cells; have HI12 := Hd.mk (HI11.out.then_below hb12); have HB12 := Hd.mk hb12; clear hb12)
                | (go_at_call_of 30 (Value.int .i64 k3); refine (bare_true (HV3 _).out (HG.out.below HI12.out.below)).mono ?_; rintro e w13 ⟨rfl, hb13⟩; have hb13' := bstep HB12.out hb13; obtain ⟨x0, x1, x2, x3⟩ := (HX10_11.out.below hb13' HX10_11.out.lt).cells; obtain ⟨y0, y1, y2, y3⟩ := (HX11_11.out.below hb13' HX11_11.out.lt).cells; have HI13 := Hd.mk (HI12.out.then_below hb13); clear hb13 hb13'))
              go_roundg (n + 1 - (j + 1 + 1))
              case rel => exact ⟨j + 1 + 1, t5, by rw [HR'.out], by have hwj : wrap64 ((j : Int) + 1 + 1) = (j : Int) + 1 + 1 := (by have := HJ.out; unfold wrap64; omega); simp [hwj], by omega, HI13.out⟩
              case measure => have := HGK.out; omega
            · have g2 : ¬ ((nb : Int) < 400) := by omega
              by_cases g3 : j + 1 = n
              · have g4 : (((j : Int) + 1 : Int) == (n : Int)) = true := by rw [beq_iff_eq]; omega
                clear g3
                go_wp2_with fail
                refine (rahead_calls (u := unit) (at_ := at_) HALL'.out (by rw [← HNB.out]; omega)).mono ?_
                rintro e w8 ⟨hb8, c1, k1, rfl, ha1⟩
                rw [Cn.v_eq]
                have HA1 := Hd.mk ha1
                clear ha1
                obtain ⟨er1, her1⟩ : ∃ x, x = erV k1 := ⟨_, rfl⟩
                have HER1 := Hd.mk her1
                clear her1
                have HX8 : Hd (CnBlk (w8.alloc (.cells #[.int .i64 c1.b, .int .i64 c1.h, .int .i64 c1.r, .int .i64 c1.l] 36)) w8.heap.size c1) := ⟨heap_alloc_new w8 _⟩
                have HI8 := Hd.mk (HIz.out.then_below (bstep hb8 (ex_alloc (Below.refl _ _) (.cells #[.int .i64 c1.b, .int .i64 c1.h, .int .i64 c1.r, .int .i64 c1.l] 36))))
                clear hb8
                go_wp2_with fail
                generalize w8.alloc (.cells #[.int .i64 c1.b, .int .i64 c1.h, .int .i64 c1.r, .int .i64 c1.l] 36) = a8 at HX8 HI8 ⊢
                generalize w8.heap.size = g8 at HX8 ⊢
                have HX8_8 := HX8
                refine (ahead_calls (u := unit) (at_ := at_) HI8.out.at_ HI8.out.good).mono ?_
                rintro e w9 ⟨hb9, c2, er2, rfl, ha2⟩
                rw [← HR'.out] at ha2
                obtain ⟨rfl, rfl⟩ : c2 = c1 ∧ er2 = er1 := by rw [HER1.out]; exact AheadR.unique ha2 HA1.out
                clear ha2
                rw [Cn.v_eq]
                have HX9 : Hd (CnBlk (w9.alloc (.cells #[.int .i64 c2.b, .int .i64 c2.h, .int .i64 c2.r, .int .i64 c2.l] 36)) w9.heap.size c2) := ⟨heap_alloc_new w9 _⟩
                have HX8_9 := Hd.mk (HX8_8.out.below (bstep hb9 (ex_alloc (Below.refl _ _) (.cells #[.int .i64 c2.b, .int .i64 c2.h, .int .i64 c2.r, .int .i64 c2.l] 36))) HX8_8.out.lt)
                have HI9 := Hd.mk (HI8.out.then_below (bstep hb9 (ex_alloc (Below.refl _ _) (.cells #[.int .i64 c2.b, .int .i64 c2.h, .int .i64 c2.r, .int .i64 c2.l] 36))))
                clear hb9
                go_wp2_with fail
                generalize w9.alloc (.cells #[.int .i64 c2.b, .int .i64 c2.h, .int .i64 c2.r, .int .i64 c2.l] 36) = a9 at HX9 HI9 HX8_9 ⊢
                generalize w9.heap.size = g9 at HX9 ⊢
                have HX9_9 := HX9
                refine (rline_calls (n := line) HALL'.out (by rw [← HNB.out]; omega)).mono ?_
                rintro e w10 ⟨hb10, c3, k3, rfl, ha3⟩
                rw [Cn.v_eq]
                have HA3 := Hd.mk ha3
                clear ha3
                obtain ⟨er3, her3⟩ : ∃ x, x = erV k3 := ⟨_, rfl⟩
                have HER3 := Hd.mk her3
                clear her3
                have HX10 : Hd (CnBlk (w10.alloc (.cells #[.int .i64 c3.b, .int .i64 c3.h, .int .i64 c3.r, .int .i64 c3.l] 36)) w10.heap.size c3) := ⟨heap_alloc_new w10 _⟩
                have HX8_10 := Hd.mk (HX8_9.out.below (bstep hb10 (ex_alloc (Below.refl _ _) (.cells #[.int .i64 c3.b, .int .i64 c3.h, .int .i64 c3.r, .int .i64 c3.l] 36))) HX8_9.out.lt)
                have HX9_10 := Hd.mk (HX9_9.out.below (bstep hb10 (ex_alloc (Below.refl _ _) (.cells #[.int .i64 c3.b, .int .i64 c3.h, .int .i64 c3.r, .int .i64 c3.l] 36))) HX9_9.out.lt)
                have HI10 := Hd.mk (HI9.out.then_below (bstep hb10 (ex_alloc (Below.refl _ _) (.cells #[.int .i64 c3.b, .int .i64 c3.h, .int .i64 c3.r, .int .i64 c3.l] 36))))
                clear hb10
                go_wp2_with fail
                generalize w10.alloc (.cells #[.int .i64 c3.b, .int .i64 c3.h, .int .i64 c3.r, .int .i64 c3.l] 36) = a10 at HX10 HI10 HX8_10 HX9_10 ⊢
                generalize w10.heap.size = g10 at HX10 ⊢
                have HX10_10 := HX10
                refine (line_calls (n := line) HI10.out.at_ HI10.out.good).mono ?_
                rintro e w11 ⟨hb11, c4, er4, rfl, ha4⟩
                rw [← HR'.out] at ha4
                obtain ⟨rfl, rfl⟩ : c4 = c3 ∧ er4 = er3 := by rw [HER3.out]; exact LineR.unique ha4 HA3.out
                clear ha4
                rw [Cn.v_eq]
                have HX11 : Hd (CnBlk (w11.alloc (.cells #[.int .i64 c4.b, .int .i64 c4.h, .int .i64 c4.r, .int .i64 c4.l] 36)) w11.heap.size c4) := ⟨heap_alloc_new w11 _⟩
                have HX8_11 := Hd.mk (HX8_10.out.below (bstep hb11 (ex_alloc (Below.refl _ _) (.cells #[.int .i64 c4.b, .int .i64 c4.h, .int .i64 c4.r, .int .i64 c4.l] 36))) HX8_10.out.lt)
                have HX9_11 := Hd.mk (HX9_10.out.below (bstep hb11 (ex_alloc (Below.refl _ _) (.cells #[.int .i64 c4.b, .int .i64 c4.h, .int .i64 c4.r, .int .i64 c4.l] 36))) HX9_10.out.lt)
                have HX10_11 := Hd.mk (HX10_10.out.below (bstep hb11 (ex_alloc (Below.refl _ _) (.cells #[.int .i64 c4.b, .int .i64 c4.h, .int .i64 c4.r, .int .i64 c4.l] 36))) HX10_10.out.lt)
                have HI11 := Hd.mk (HI10.out.then_below (bstep hb11 (ex_alloc (Below.refl _ _) (.cells #[.int .i64 c4.b, .int .i64 c4.h, .int .i64 c4.r, .int .i64 c4.l] 36))))
                clear hb11
                go_wp2_with fail
                generalize w11.alloc (.cells #[.int .i64 c4.b, .int .i64 c4.h, .int .i64 c4.r, .int .i64 c4.l] 36) = a11 at HX11 HI11 HX8_11 HX9_11 HX10_11 ⊢
                generalize w11.heap.size = g11 at HX11 ⊢
                have HX11_11 := HX11
                have HV1 : Hd (ErrV a11 er2 k1 (-1)) := ⟨by rw [HER1.out]; exact errV_erV _ _⟩
                have HV3 : ∀ W, Hd (ErrV W er4 k3 (-1)) := fun W => ⟨by rw [HER3.out]; exact errV_erV _ _⟩
                go_wp2_with (first
                  | (go_at_call_of 30 (Value.int .i64 k1); refine (bare_true HV1.out (HG.out.below HI11.out.below)).mono ?_; rintro e w12 ⟨rfl, hb12⟩; obtain ⟨x0, x1, x2, x3⟩ := (HX8_11.out.below hb12 HX8_11.out.lt).cells; obtain ⟨y0, y1, y2, y3⟩ := (HX9_11.out.below hb12 HX9_11.out.lt).cells; have HI12 := Hd.mk (HI11.out.then_below hb12); have HB12 := Hd.mk hb12; clear hb12)
                  | (go_at_call_of 30 (Value.int .i64 k3); refine (bare_true (HV3 _).out (HG.out.below HI12.out.below)).mono ?_; rintro e w13 ⟨rfl, hb13⟩; have hb13' := bstep HB12.out hb13; obtain ⟨x0, x1, x2, x3⟩ := (HX10_11.out.below hb13' HX10_11.out.lt).cells; obtain ⟨y0, y1, y2, y3⟩ := (HX11_11.out.below hb13' HX11_11.out.lt).cells; have HI13 := Hd.mk (HI12.out.then_below hb13); clear hb13 hb13'))
                go_roundg (n + 1 - (j + 1 + 1))
                case rel => exact ⟨j + 1 + 1, t5, by rw [HR'.out], by have hwj : wrap64 ((j : Int) + 1 + 1) = (j : Int) + 1 + 1 := (by have := HJ.out; unfold wrap64; omega); simp [hwj], by omega, HI13.out⟩
                case measure => have := HGK.out; omega
              · have g4 : (((j : Int) + 1 : Int) == (n : Int)) = false := by rw [beq_eq_false_iff_ne]; omega
                clear g3
                go_wp2_with fail
                go_roundg (n + 1 - (j + 1 + 1))
                case rel => exact ⟨j + 1 + 1, t5, by rw [HR'.out], by have hwj : wrap64 ((j : Int) + 1 + 1) = (j : Int) + 1 + 1 := (by have := HJ.out; unfold wrap64; omega); simp [hwj], by omega, HIz.out⟩
                case measure => have := HGK.out; omega
      · have hi2 : ¬ ((i : Int) ≤ (n : Int)) := by omega
        go_wp2_with fail
        go_ret
        exact ⟨rfl, HI.out.below⟩
  · have HNE := Hd.mk hr
    have hoff : U.off rs rs.length = bl rs := U.off_full rs
    rw [hoff] at hls
    have HOFF := Hd.mk hoff
    clear hsp hr h1 h2 hoff hls
    go_enter Tryd.func13, Tryd.ntmps13
    go_wp2_with (first
      | (go_at_call 40; refine (HNEW _).out.mono ?_; rintro e w1 ⟨hb, h2, -, -⟩; obtain ⟨g, rfl, hat⟩ := h2 HNE.out; have HB := Hd.mk hb; have HAT := Hd.mk hat; clear hb h2 hat; unfold atV)
      | (go_at_call 18; refine (HC _).out.mono ?_; rintro e w2 ⟨hb2, -, he⟩; obtain rfl := he HNE.out; rw [HOFF.out]; have HB2 := Hd.mk (bstep HB.out hb2); have HAT2 := Hd.mk (HAT.out.below hb2); clear hb2 he; unfold fltV)
      | (go_at_call 19; refine (is_true (.at_ g 3 (bl rs) (HAT2.out.below (ex_alloc (ex_alloc (Below.refl _ _) _) _))) (HG.out.below (ex_alloc (ex_alloc HB2.out _) _))).mono ?_; rintro e w3 ⟨rfl, hb3⟩; have HB3 := Hd.mk (bstep (ex_alloc (ex_alloc HB2.out _) _) hb3); clear hb3))
    go_ret
    exact ⟨rfl, HB3.out⟩
end Go.Proofs.YtgokmldngnmmhaaDoor
/- '==' of a part with itself. -/
namespace Go.Proofs.YtgokmldngnmmhaaDoor
open Go.RowKit
set_option maxRecDepth 100000
theorem pt_guard : Tryd.prog.eqGuardType Tryd.prog.depth 111 = false := by kernel_rfl
theorem pt_held : Tryd.prog.stoodInHeld 111 = false := by kernel_rfl
theorem pt_fields : Tryd.prog.underlying 111 = some (.struct (Tryd.prog.fieldsOf 111)) := by kernel_rfl
theorem pt_list : (Tryd.prog.fieldsOf 111).toList.map (fun f => (f.name, f.type, f.offset)) = [("Keep", 3, 0), ("Drop", 3, 1), ("Put", 9, 2)] := by kernel_rfl
theorem three_of_map {α β : Type} (f : α → β) {l : List α} {a b c : β} (h : l.map f = [a, b, c]) : ∃ x0 x1 x2, l = [x0, x1, x2] ∧ f x0 = a ∧ f x1 = b ∧ f x2 = c := by
  match l, h with
  | [], h => simp at h
  | [_], h => simp at h
  | [_, _], h => simp at h
  | [x0, x1, x2], h =>
    simp only [List.map_cons, List.map_nil, List.cons.injEq, and_true] at h
    exact ⟨x0, x1, x2, rfl, h.1, h.2.1, h.2.2⟩
  | _ :: _ :: _ :: _ :: _, h => simp at h
theorem pt_list3 : ∃ f0 f1 f2, (Tryd.prog.fieldsOf 111).toList = [f0, f1, f2] ∧ (f0.name, f0.type, f0.offset) = ("Keep", 3, 0) ∧ (f1.name, f1.type, f1.offset) = ("Drop", 3, 1) ∧ (f2.name, f2.type, f2.offset) = ("Put", 9, 2) := by
  exact three_of_map _ pt_list
theorem pt_part0 (a b : Int) (c : ByteArray) (w : World) : (part 3 #[.int .i64 a, .int .i64 b, .string c] 0).run Tryd.prog w = .ok (.int .i64 a) w := by kernel_rfl
theorem pt_part1 (a b : Int) (c : ByteArray) (w : World) : (part 3 #[.int .i64 a, .int .i64 b, .string c] 1).run Tryd.prog w = .ok (.int .i64 b) w := by kernel_rfl
theorem pt_part2 (a b : Int) (c : ByteArray) (w : World) : (part 9 #[.int .i64 a, .int .i64 b, .string c] 2).run Tryd.prog w = .ok (.string c) w := by kernel_rfl
theorem pt_eqIn (x : PT) (w : World) : (Op.equalIn 10000 111 x.v x.v).run Tryd.prog w = .ok true w := by
  unfold PT.v
  rw [show (10000 : Nat) = 9999 + 1 from rfl, run_equalIn_struct w _ _ _ _ pt_fields pt_held]
  obtain ⟨f0, f1, f2, hl, h0, h1, h2⟩ := pt_list3
  simp only [Prod.mk.injEq] at h0 h1 h2
  rw [hl]
  have hi : ∀ (a b : Int) (w : World), (Op.equalIn 9999 3 (.int .i64 a) (.int .i64 b)).run Tryd.prog w = .ok (a == b) w := fun a b w => run_equalIn_int w 9998 _ _ _ _ _ Tryd.underlying3
  have hs : ∀ (a b : ByteArray) (w : World), (Op.equalIn 9999 9 (.string a) (.string b)).run Tryd.prog w = .ok (a.toList == b.toList) w := fun a b w => run_equalIn_string w 9998 _ _ _ Tryd.underlying9
  simp only [Op.eqFields, h0.1, h0.2.1, h0.2.2, h1.1, h1.2.1, h1.2.2, h2.1, h2.2.1, h2.2.2]
  simp [pt_part0, pt_part1, pt_part2, hi, hs, Result.andThen]
theorem pt_neq (x : PT) (w : World) : (binOp .neq 111 x.v x.v).run Tryd.prog w = .ok (.bool false) w := by
  have h := pt_eqIn x w
  unfold PT.v at h ⊢
  rw [run_neq_struct, h]; rfl
theorem pt_eqGuard (op : BinOp) (p q : Operand) (xs ys : Array Value) (w : World) : (eqGuard op 111 p q (.agg xs) (.agg ys)).run Tryd.prog w = .ok () w := run_eqGuard_agg w op _ p q xs ys pt_guard
end Go.Proofs.YtgokmldngnmmhaaDoor
/- The arguments of a law opened: a string, a slice of numbers. Over any program. -/
namespace Go.Proofs.YtgokmldngnmmhaaDoor
open Go.ChangeShapes Go.WideShapes Go.ChangeAt Go.RowKit
open Go.ChangeMaps (open_string)
section
variable {H : Type} {enc : TypeId × Value → H} {P : Program} {w : World} {base : Nat}
theorem open_str {r : Reach} {b0 : Nat} {t : TypeId} {v : Value} {d : DataW H} {ps : List MemPlace} {sp : Nat → Bool} {held : Bool} (ht : P.underlying t = some .string) (hval : Value.okWide P w r b0 t v) (hd : DataW.Trod enc P w base sp held t v d ps) :
    ∃ s : List UInt8, v = .string ⟨s.toArray⟩ ∧ d = .lit (.string s) ∧ ps = [] ∧ s.length ≤ maxLen := by
  obtain ⟨s, rfl, rfl, rfl, h⟩ := open_string ht hval hd
  exact ⟨s.data.toList, by rw [Array.toArray_toList], rfl, rfl, h⟩
theorem open_sl_ints {r : Reach} {b0 : Nat} {t e : TypeId} {k : IntKind} {v : Value} {d : DataW H} {ps : List MemPlace} (ht : P.underlying t = some (.slice e)) (he : P.underlying e = some (.int k)) (hc : P.cellsOf e = 1)
    (hval : Value.okWide P w r b0 t v) (hd : DataW.Trod enc P w base (fun _ => true) true t v d ps) :
    ∃ (n : Nat) (zs : List Int), Sl w 1 v n (zs.map (.int k)) ∧ zs.length = n ∧ ∀ z ∈ zs, (Lit.int k z).wf = true := by
  obtain ⟨a0, len, cap, rfl⟩ := okWide_slice ht hval
  obtain ⟨fuel, hf⟩ := hd
  rcases open_ints ht he hc hf with ⟨hcs, hx⟩ | ⟨a, len', cap', zs, hcs, _, hl, hm, hz, hx, hcell, hwz⟩
  · simp [Value.cells] at hcs
    obtain ⟨rfl, rfl, rfl⟩ := hcs
    exact ⟨0, [], Sl.nil w 1, rfl, fun z hz => by simp at hz⟩
  · simp [Value.cells] at hcs
    obtain ⟨rfl, rfl, rfl⟩ := hcs
    simp only [if_true] at hz
    have hlen : (zs.take len).length = len := by rw [List.length_take, hz]; omega
    refine ⟨len, zs.take len, ⟨some a, cap, rfl, by rw [List.length_map, hlen, Nat.mul_one], hl, hm, (fun h => nomatch h), fun hn => ⟨a, rfl, ?_, ?_⟩⟩, hlen, fun z hz' => hwz z (List.mem_of_mem_take hz')⟩
    · have := World.block_lt_of_cell? w _ (hcell 0 (by omega))
      rw [block_of_add] at this
      exact this
    · intro j u hu
      rw [List.getElem?_map] at hu
      have hj : j < len := by
        rcases Nat.lt_or_ge j len with h | h
        · exact h
        · rw [List.getElem?_eq_none (by omega)] at hu; simp at hu
      rw [List.getElem?_take, if_pos hj, List.getElem?_eq_getElem (by omega)] at hu
      simp only [Option.map_some, Option.some.injEq] at hu
      subst hu
      have := hcell j (by omega)
      rwa [List.getD_eq_getElem?_getD, List.getElem?_eq_getElem (by omega)] at this
end
end Go.Proofs.YtgokmldngnmmhaaDoor
