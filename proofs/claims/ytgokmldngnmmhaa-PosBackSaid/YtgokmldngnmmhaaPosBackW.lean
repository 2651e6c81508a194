/- The walk of the law PosBack. -/
import Derived.Test.YtgokmldngnmmhaaPosE
namespace Go.Proofs.Ytgokmldngnmmhaa
open Go.RowKit Go.Sort
set_option maxRecDepth 100000
/-- Places keep their order, by whichever unit. -/
theorem pl_order {f g a b : Int} {R : List Int} {c d : Cn} (hf : 1 ≤ f ∧ f ≤ 3) (hg : 1 ≤ g ∧ g ≤ 3) (h : Pl f a R c) (k : Pl f b R d) : (a < b → c.of g < d.of g) ∧ (a = b → c.of g = d.of g) ∧ (b < a → d.of g < c.of g) := by
  obtain ⟨p, q, e1, rfl, rfl⟩ := h
  obtain ⟨p', q', e1', rfl, rfl⟩ := k
  have key : ∀ (p d : List Int), (cnt p).of f < (cnt (p ++ d)).of f → (cnt p).of g < (cnt (p ++ d)).of g := by
    intro p d h
    rw [cnt_app_of] at h ⊢
    have hd : d ≠ [] := by rintro rfl; rw [cnt_nil, of_zero] at h; omega
    have := of_len d hg
    have := List.length_pos_iff.2 hd
    omega
  rcases pre_le (e1.symm.trans e1') with ⟨x, h1, -⟩ | ⟨x, h1, -⟩
  · subst h1
    refine ⟨key p x, fun e => ?_, fun e => ?_⟩
    · exact congrArg (fun z => (cnt z).of g) (pre_unique hf (e1.symm.trans e1') e).1
    · rw [cnt_app_of] at e; have := of_nn x f; omega
  · subst h1
    refine ⟨fun e => ?_, fun e => ?_, key p' x⟩
    · rw [cnt_app_of] at e; have := of_nn x f; omega
    · exact congrArg (fun z => (cnt z).of g) (pre_unique hf (e1.symm.trans e1') e).1
theorem Pl.turn {u at_ v : Int} {R : List Int} {c : Cn} (h : Pl u at_ R c) : Pl v (c.of v) R c := by
  obtain ⟨p, q, e1, -, rfl⟩ := h
  exact ⟨p, q, e1, rfl, rfl⟩
theorem Pl.val {u at_ : Int} {R : List Int} {c : Cn} (h : Pl u at_ R c) : c.of u = at_ := by
  obtain ⟨p, q, -, e, rfl⟩ := h
  exact e
attribute [local go_sem] Cn.v_eq
set_option maxHeartbeats 8000000 in
theorem posBack_walk {s : U.Bs} {from_ to_ a b : Int} {w : World} (hsm : s.length ≤ maxLen) :
    Calls Try.prog 3 #[.string ⟨s.toArray⟩, .int .i64 from_, .int .i64 to_, .int .i64 a, .int .i64 b] w fun e w' => e = .returned (.bool true) ∧ Below w.heap.size w w' := by
  have HSM := Hd.mk hsm
  clear hsm
  go_enter Try.func3, Try.ntmps3
  go_wp2_with (go_at_call 4; refine (laid_calls _).mono ?_; rintro e w1 ⟨rfl, hb1⟩; have HB1 := Hd.mk hb1; clear hb1)
  refine (document_calls w1 HSM.out).mono ?_
  rintro e w2 ⟨hb2, hd⟩
  have HB2 := Hd.mk (bstep HB1.out hb2)
  rcases hd with rfl | ⟨p, t, rfl, hat, hg, -⟩
  · clear hb2
    go_wp2_with fail
    go_ret
    exact ⟨rfl, HB2.out⟩
  · have HR := Hd.mk hat
    have HG := Hd.mk hg
    have HTL : Hd (t.runes.length ≤ 8000) := ⟨by have := bl_len t.runes; have := hg.sz; omega⟩
    clear hb2 hat hg
    go_wp2_with fail
    refine (pick_calls from_ 3 (by omega) w2).mono ?_
    rintro e w3 ⟨k1, rfl, h1, h2, rfl⟩
    obtain ⟨f, hf⟩ : ∃ f, f = 1 + k1 := ⟨_, rfl⟩
    go_wp2_with fail
    refine (pick_calls to_ 3 (by omega) w3).mono ?_
    rintro e w4 ⟨k2, rfl, h3, h4, rfl⟩
    obtain ⟨g, hgg⟩ : ∃ g, g = 1 + k2 := ⟨_, rfl⟩
    go_wp2_with fail
    rw [← hf, ← hgg]
    have hf1 : 1 ≤ f := by omega
    have hf2 : f ≤ 3 := by omega
    have hg1 : 1 ≤ g := by omega
    have hg2 : g ≤ 3 := by omega
    clear hf hgg h1 h2 h3 h4
    obtain ⟨tot, htot⟩ : ∃ x, x = (cnt t.runes).of f := ⟨_, rfl⟩
    have ht1 : 0 ≤ tot := by rw [htot]; exact of_nn _ _
    have ht2 : tot ≤ 32000 := by rw [htot]; have := of_le (rs := t.runes) (n := 8000) HTL.out f; omega
    have HTOT := Hd.mk htot
    have HU : Hd ((1 ≤ f ∧ f ≤ 3) ∧ (1 ≤ g ∧ g ≤ 3)) := ⟨⟨⟨hf1, hf2⟩, hg1, hg2⟩⟩
    clear htot
    refine (counts_calls HR.out).mono ?_
    rintro e w5 ⟨rfl, hb5⟩
    have HB5 := Hd.mk (bstep HB2.out hb5)
    have HR5 := Hd.mk (HR.out.below hb5)
    clear hb5
    go_wp2_with (go_at_call 7; refine (in_calls (cnt t.runes) f _).mono ?_; rintro e w6 ⟨rfl, hb6⟩; rw [← HTOT.out]; have HB6 := Hd.mk (bstep HB5.out hb6); have HR6 := Hd.mk (HR5.out.below hb6); clear hb6)
    refine (pick_calls a (tot + 1) (by omega) w6).mono ?_
    rintro e w7 ⟨x1, rfl, h1, h2, rfl⟩
    go_wp2_with fail
    refine (pick_calls b (tot + 1) (by omega) w7).mono ?_
    rintro e w8 ⟨x2, rfl, h3, h4, rfl⟩
    go_wp2_with fail
    refine (convert_calls (u := f) (v := g) (at_ := x1) HR6.out HG.out HU.out.1 HU.out.2).mono ?_
    rintro e w9 ⟨hb9, hc1⟩
    have HB9 := Hd.mk (bstep HB6.out hb9)
    have HR9 := Hd.mk (HR6.out.below hb9)
    clear hb9
    rcases hc1 with ⟨c, hp, rfl⟩ | ⟨hno, k, hk, rfl⟩
    · have HP := Hd.mk hp
      clear hp
      go_wp2_with fail
      refine (convert_calls (u := f) (v := g) (at_ := x2) HR9.out HG.out HU.out.1 HU.out.2).mono ?_
      rintro e w10 ⟨hb10, hc2⟩
      have HB10 := Hd.mk (bstep HB9.out hb10)
      have HR10 := Hd.mk (HR9.out.below hb10)
      clear hb10
      rcases hc2 with ⟨d, hp2, rfl⟩ | ⟨-, k, -, rfl⟩
      · have HD := Hd.mk hp2
        clear hp2
        go_wp2_with fail
        refine (convert_calls (u := g) (v := f) (at_ := c.of g) HR10.out HG.out HU.out.2 HU.out.1).mono ?_
        rintro e w11 ⟨hb11, hc3⟩
        have HB11 := Hd.mk (bstep HB10.out hb11)
        have HR11 := Hd.mk (HR10.out.below hb11)
        clear hb11
        obtain rfl : e = .returned (.tuple #[.int .i64 x1, .nilIface]) := by
          rcases hc3 with ⟨c2, hp2, e⟩ | ⟨hno, -⟩
          · have := hp2.unique HU.out.2 HP.out.turn
            subst this
            rw [e, HP.out.val]
          · exact absurd HP.out.turn (hno _)
        clear hc3
        go_wp2_with fail
        refine (spot_calls (u := f) (at_ := x1) HR11.out HG.out HU.out.1).mono ?_
        rintro e w12 ⟨hb12, hc4⟩
        have HB12 := Hd.mk (bstep HB11.out hb12)
        have HR12 := Hd.mk (HR11.out.below hb12)
        clear hb12
        obtain ⟨lc, hln, rfl⟩ : ∃ lc, Ln c.l t.runes lc ∧ e = .returned (.tuple #[.agg #[.int .i64 c.l, .int .i64 (c.of f - lc.of f)], .nilIface]) := by
          rcases hc4 with ⟨c2, lc, hp2, hl, e⟩ | ⟨hno, -⟩
          · have := hp2.unique HU.out.1 HP.out
            subst this
            exact ⟨lc, hl, e⟩
          · exact absurd HP.out (hno _)
        have HLN := Hd.mk hln
        clear hc4 hln
        go_wp2_with fail
        refine (place_ok (HR12.out.below (ex_alloc (Below.refl _ _) _)) HG.out HU.out.1 HP.out HLN.out).mono ?_
        rintro e w13 ⟨rfl, hb13⟩
        have HB13 := Hd.mk (bstep (ex_alloc HB12.out _) hb13)
        have HR13 := Hd.mk ((HR12.out.below (ex_alloc (Below.refl _ _) _)).below hb13)
        clear hb13
        have hxx : (x1 != x1) = false := by simp
        go_wp2_with fail
        refine (ahead_calls (u := f) (at_ := x1) HR13.out HG.out).mono ?_
        rintro e w14 ⟨hb14, c3, er3, rfl, hr3⟩
        have HB14 := Hd.mk (bstep HB13.out hb14)
        have HR14 := Hd.mk (HR13.out.below hb14)
        clear hb14
        obtain rfl : er3 = .nilIface := by
          rcases ahead_cases hr3 with ⟨e, -⟩ | ⟨k, -, -, -, hno⟩
          · exact e
          · exact absurd ⟨HP.out, HU.out.1⟩ (hno c)
        clear hr3
        go_wp2_with fail
        refine (spot_calls (u := f) (at_ := x1) (HR14.out.below (ex_alloc (Below.refl _ _) _)) HG.out HU.out.1).mono ?_
        rintro e w15 ⟨hb15, hc5⟩
        have HB15 := Hd.mk (bstep (ex_alloc HB14.out _) hb15)
        clear hb15
        obtain ⟨sl, sc, rfl⟩ : ∃ sl sc : Int, e = .returned (.tuple #[.agg #[.int .i64 sl, .int .i64 sc], .nilIface]) := by
          rcases hc5 with ⟨c2, lc, hp2, hl, e⟩ | ⟨hno, -⟩
          · exact ⟨_, _, e⟩
          · exact absurd HP.out (hno _)
        clear hc5
        go_wp2_with fail
        go_quiet (fail)
        rcases Int.lt_trichotomy x1 x2 with hx | hx | hx
        · have hy := (pl_order HU.out.1 HU.out.2 HP.out HD.out).1 hx
          have b1 : (x1 == x2) = false := by rw [beq_eq_false_iff_ne]; omega
          have b2 : (c.of g == d.of g) = false := by rw [beq_eq_false_iff_ne]; omega
          go_wp2_with fail
          go_ret
          exact ⟨rfl, ex_drewN nq (ex_alloc HB15.out _)⟩
        · have hy := (pl_order HU.out.1 HU.out.2 HP.out HD.out).2.1 hx
          have b1 : (x1 == x2) = true := by rw [hx]; exact beq_self_eq_true _
          have b2 : (c.of g == d.of g) = true := by rw [hy]; exact beq_self_eq_true _
          have n1 : ¬ (x1 < x2) := by omega
          have n2 : ¬ (c.of g < d.of g) := by omega
          clear hx hy
          go_wp2_with fail
          go_ret
          exact ⟨rfl, ex_drewN nq (ex_alloc HB15.out _)⟩
        · have hy := (pl_order HU.out.1 HU.out.2 HP.out HD.out).2.2 hx
          have b1 : (x1 == x2) = false := by rw [beq_eq_false_iff_ne]; omega
          have b2 : (c.of g == d.of g) = false := by rw [beq_eq_false_iff_ne]; omega
          have n1 : ¬ (x1 < x2) := by omega
          have n2 : ¬ (c.of g < d.of g) := by omega
          go_wp2_with fail
          go_ret
          exact ⟨rfl, ex_drewN nq (ex_alloc HB15.out _)⟩
      · unfold errno
        go_wp2_with fail
        refine (convert_calls (u := g) (v := f) (at_ := c.of g) HR10.out HG.out HU.out.2 HU.out.1).mono ?_
        rintro e w11 ⟨hb11, hc3⟩
        have HB11 := Hd.mk (bstep HB10.out hb11)
        have HR11 := Hd.mk (HR10.out.below hb11)
        clear hb11
        obtain rfl : e = .returned (.tuple #[.int .i64 x1, .nilIface]) := by
          rcases hc3 with ⟨c2, hp2, e⟩ | ⟨hno, -⟩
          · have := hp2.unique HU.out.2 HP.out.turn
            subst this
            rw [e, HP.out.val]
          · exact absurd HP.out.turn (hno _)
        clear hc3
        go_wp2_with fail
        refine (spot_calls (u := f) (at_ := x1) HR11.out HG.out HU.out.1).mono ?_
        rintro e w12 ⟨hb12, hc4⟩
        have HB12 := Hd.mk (bstep HB11.out hb12)
        have HR12 := Hd.mk (HR11.out.below hb12)
        clear hb12
        obtain ⟨lc, hln, rfl⟩ : ∃ lc, Ln c.l t.runes lc ∧ e = .returned (.tuple #[.agg #[.int .i64 c.l, .int .i64 (c.of f - lc.of f)], .nilIface]) := by
          rcases hc4 with ⟨c2, lc, hp2, hl, e⟩ | ⟨hno, -⟩
          · have := hp2.unique HU.out.1 HP.out
            subst this
            exact ⟨lc, hl, e⟩
          · exact absurd HP.out (hno _)
        have HLN := Hd.mk hln
        clear hc4 hln
        go_wp2_with fail
        refine (place_ok (HR12.out.below (ex_alloc (Below.refl _ _) _)) HG.out HU.out.1 HP.out HLN.out).mono ?_
        rintro e w13 ⟨rfl, hb13⟩
        have HB13 := Hd.mk (bstep (ex_alloc HB12.out _) hb13)
        have HR13 := Hd.mk ((HR12.out.below (ex_alloc (Below.refl _ _) _)).below hb13)
        clear hb13
        have hxx : (x1 != x1) = false := by simp
        go_wp2_with fail
        refine (ahead_calls (u := f) (at_ := x1) HR13.out HG.out).mono ?_
        rintro e w14 ⟨hb14, c3, er3, rfl, hr3⟩
        have HB14 := Hd.mk (bstep HB13.out hb14)
        have HR14 := Hd.mk (HR13.out.below hb14)
        clear hb14
        obtain rfl : er3 = .nilIface := by
          rcases ahead_cases hr3 with ⟨e, -⟩ | ⟨k, -, -, -, hno⟩
          · exact e
          · exact absurd ⟨HP.out, HU.out.1⟩ (hno c)
        clear hr3
        go_wp2_with fail
        refine (spot_calls (u := f) (at_ := x1) (HR14.out.below (ex_alloc (Below.refl _ _) _)) HG.out HU.out.1).mono ?_
        rintro e w15 ⟨hb15, hc5⟩
        have HB15 := Hd.mk (bstep (ex_alloc HB14.out _) hb15)
        clear hb15
        obtain ⟨sl, sc, rfl⟩ : ∃ sl sc : Int, e = .returned (.tuple #[.agg #[.int .i64 sl, .int .i64 sc], .nilIface]) := by
          rcases hc5 with ⟨c2, lc, hp2, hl, e⟩ | ⟨hno, -⟩
          · exact ⟨_, _, e⟩
          · exact absurd HP.out (hno _)
        clear hc5
        go_wp2_with fail
        go_quiet (fail)
        go_wp2_with fail
        go_ret
        exact ⟨rfl, ex_drewN nq (ex_alloc HB15.out _)⟩
    · have HNO := Hd.mk hno
      clear hno hk
      unfold errno
      go_wp2_with fail
      refine (convert_calls (u := f) (v := g) (at_ := x2) HR9.out HG.out HU.out.1 HU.out.2).mono ?_
      rintro e w10 ⟨hb10, hc2⟩
      have HB10 := Hd.mk (bstep HB9.out hb10)
      have HR10 := Hd.mk (HR9.out.below hb10)
      clear hb10
      obtain ⟨y, er2, rfl⟩ : ∃ y er, e = .returned (.tuple #[.int .i64 y, er]) := by
        rcases hc2 with ⟨c, -, rfl⟩ | ⟨-, k, -, rfl⟩
        · exact ⟨_, _, rfl⟩
        · exact ⟨_, _, rfl⟩
      clear hc2
      go_wp2_with fail
      refine (ahead_calls (u := f) (at_ := x1) HR10.out HG.out).mono ?_
      rintro e w11 ⟨hb11, c3, er3, rfl, hr3⟩
      have HB11 := Hd.mk (bstep HB10.out hb11)
      have HR11 := Hd.mk (HR10.out.below hb11)
      clear hb11
      obtain ⟨k3, rfl⟩ : ∃ k, er3 = errno k := by
        rcases ahead_cases hr3 with ⟨-, hp, -⟩ | ⟨k, e, -⟩
        · exact absurd hp (HNO.out _)
        · exact ⟨k, e⟩
      clear hr3
      unfold errno
      go_wp2_with fail
      refine (spot_calls (u := f) (at_ := x1) (HR11.out.below (ex_alloc (Below.refl _ _) _)) HG.out HU.out.1).mono ?_
      rintro e w12 ⟨hb12, hc4⟩
      have HB12 := Hd.mk (bstep (ex_alloc HB11.out _) hb12)
      clear hb12
      obtain ⟨k4, rfl⟩ : ∃ k, e = .returned (.tuple #[.agg #[.int .i64 0, .int .i64 0], errno k]) := by
        rcases hc4 with ⟨c, lc, hp, -⟩ | ⟨-, k, -, e⟩
        · exact absurd hp (HNO.out _)
        · exact ⟨k, e⟩
      clear hc4
      unfold errno
      go_wp2_with fail
      go_quiet (fail)
      go_wp2_with fail
      go_ret
      exact ⟨rfl, ex_drewN nq (ex_alloc HB12.out _)⟩
end Go.Proofs.Ytgokmldngnmmhaa
