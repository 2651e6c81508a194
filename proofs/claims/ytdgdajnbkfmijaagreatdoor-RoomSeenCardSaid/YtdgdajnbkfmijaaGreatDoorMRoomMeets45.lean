/- Several texts of the proof, one behind the other: CliD, CliE, CliF, CliG, SrvE, DelP, CliH. -/
import Derived.Test.YtdgdajnbkfmijaaGreatDoorMRoomMeets44
import Derived.BigQuiet
import Derived.Deep.QuietTactic
import Derived.Deep.CutRange
import Derived.Deep.RegionHeld3
import Derived.Test.YtdgdajnbkfmijaaGreatDoorMRoomMeets20
import Derived.Carry
import Derived.Deep.RegionLaw
import Derived.Lib.SlicesDelete
/- A client's Take: another one's operation. -/
namespace Go.Proofs.YtdgdajnbkfmijaaGreatDoor
open Go.RowKit Go.Sort
set_option maxRecDepth 100000
theorem CliP.done {w w7 : World} {F : Nat → Prop} {c : CP} {C C' : CV} {vw vt : Value} (h : CliR w F c C) (ho : Only (fun k => k = c.f) w w7) (hs : ∃ B, w.heap.size ≤ B ∧ ShF B w7 c.f C.unit C'.doc)
    (hC : C'.who = C.who ∧ C'.unit = C.unit ∧ C'.id = C.id ∧ C'.has = C.has ∧ C'.more = C.more ∧ C'.dropped = C.dropped) (h1 : OpO F w7 vw C'.way) (h2 : OpO F w7 vt C'.waits) :
    CliP F c .nilIface C' w (.returned .nilIface) ((((w7.setCell ⟨c.a, 2, none⟩ (.string ⟨(U.encs C'.seen).toArray⟩)).setCell ⟨c.a, 3, none⟩ (.int .i64 (C'.rev : Int))).setCell ⟨c.a, 5, none⟩ vw).setCell ⟨c.a, 6, none⟩ vt) := by
  obtain ⟨e1, e2, e3, e4, e5, e6⟩ := hC
  obtain ⟨B, hB, hs⟩ := hs
  have hne := h.ne
  have hb7 : Blk w7 c.a 139 (c.cells C) := h.blk.only ho hne
  have hn := (((hb7.set_ 2 (.string ⟨(U.encs C'.seen).toArray⟩)).set_ 3 (.int .i64 (C'.rev : Int))).set_ 5 vw).set_ 6 vt
  have hof : Only (fun k => k = c.a) w7 _ := (((((Only.refl (fun k => k = c.a) w7).setCell (p := ⟨c.a, 2, none⟩) (.inl rfl) (.string ⟨(U.encs C'.seen).toArray⟩)).setCell (p := ⟨c.a, 3, none⟩) (.inl rfl) (.int .i64 (C'.rev : Int))).setCell (p := ⟨c.a, 5, none⟩) (.inl rfl) vw).setCell (p := ⟨c.a, 6, none⟩) (.inl rfl) vt)
  have hF : ∀ j, c.F j → F j := h.sub
  have hca : ∀ j, j = c.a → F j := fun j e => hF j (.inl e)
  have hlt : ∀ j, F j → j < w7.heap.size := fun j hj => Nat.lt_of_lt_of_le (h.flt j hj) ho.size
  refine CliP.turn h ((ho.mono (fun k _ e => .inr e)).trans (hof.mono (fun k _ e => .inl e))) ?_ (h1.only (hof.mono (fun k _ => hca k)) (Grow.refl _ _)) (h2.only (hof.mono (fun k _ => hca k)) (Grow.refl _ _)) ?_
  · unfold CP.cells at hn ⊢
    rw [e1, e3, e4, e5, e6]
    exact hn
  · rw [e2]
    exact (hs.sho (fun j hj => Nat.lt_of_lt_of_le (h.flt j hj) hB)).only hof hca (fun e => hne e.symm) (Grow.refl _ _)
/-- What was there is there. -/
theorem OpO.still {w w7 : World} {F : Nat → Prop} {f : Nat} {v : Value} {l : List PT} (h : OpO F w v l) (ho : Only (fun k => k = f) w w7) (hf : F f) : OpO F w7 v l := h.only (ho.mono (fun k _ e => by subst e; exact hf)) (Grow.refl _ _)
/-- What is new is there. -/
theorem OpO.fresh {w w4 w5 w7 : World} {F : Nat → Prop} {f : Nat} {v : Value} {l : List PT} (hF : ∀ j, F j → j < w.heap.size) (hw : w.heap.size ≤ w4.heap.size) (hs : Sl w5 3 v l.length (opv l)) (hf : Frs w4.heap.size v) (ho : Only (fun k => k = f) w5 w7) (hff : F f) : OpO F w7 v l :=
  OpO.frs (B := w.heap.size) (hs.frs (B := w.heap.size) (hf.mono hw) ho (fun k e => by subst e; exact hF _ hff)) (hf.mono hw) hF
/-- Its cells while its document turned. -/
theorem CliR.cells_only {w w' : World} {F : Nat → Prop} {C : CV} {a f : Nat} {vw vt : Value} (h : CliR w F ⟨a, f, vw, vt⟩ C) (ho : Only (fun k => k = f) w w') :
    (w'.cell? ⟨a, 0, none⟩ = some (.int .i64 C.who) ∧ w'.cell? ⟨a, 1, none⟩ = some (.pointer (some ⟨f, 0, none⟩)) ∧ w'.cell? ⟨a, 2, none⟩ = some (.string ⟨(U.encs C.seen).toArray⟩) ∧ w'.cell? ⟨a, 3, none⟩ = some (.int .i64 (C.rev : Int)) ∧ w'.cell? ⟨a, 4, none⟩ = some (.int .i64 C.id) ∧
      w'.cell? ⟨a, 5, none⟩ = some vw ∧ w'.cell? ⟨a, 6, none⟩ = some vt ∧ w'.cell? ⟨a, 7, none⟩ = some (.bool C.has) ∧ w'.cell? ⟨a, 8, none⟩ = some (.bool C.more) ∧ w'.cell? ⟨a, 9, none⟩ = some (.int .i64 C.dropped)) ∧ (∀ i, w'.frozen? ⟨a, i, none⟩ = false) ∧ a < w'.heap.size := by
  have hb : Blk w' a 139 (CP.cells ⟨a, f, vw, vt⟩ C) := h.blk.only ho h.ne
  exact ⟨ten_cells hb, hb.frozen, hb.lt⟩
set_option maxHeartbeats 8000000 in
theorem ctake_other {w : World} {F : Nat → Prop} {c : CP} {C : CV} {e : EN} {v : Value} {T : Int} {Z : List (RU Int)} (h : CliR w F c C) (hg : HdlO F w) (hk : COk T C) (hrv : C.rev ≤ 100000) (hx : OpO F w v e.op) (hf : Fit_ C e Z) (ho : ¬ C.isOwn e) :
    Calls Tryz.prog 131 #[.pointer (some ⟨c.a, 0, none⟩), .int .i64 (C.rev : Int), .agg #[.int .i64 e.who, .int .i64 e.id, v]] w (CliP F c .nilIface (C.other e) w) := by
  obtain ⟨W0, hW0⟩ : ∃ W, W = w.alloc (.cells #[.int .i64 e.who, .int .i64 e.id, v] 120) := ⟨_, rfl⟩
  have hb0 : Below w.heap.size w W0 := by rw [hW0]; exact ex_alloc (Below.refl _ _) _
  have hbx : Blk W0 w.heap.size 120 #[.int .i64 e.who, .int .i64 e.id, v] := by rw [hW0]; exact Blk.new _ _ _
  have HSEEN : Hd (bl C.seen ≤ 2000 ∧ plen e.op ≤ 2000 ∧ e.op.length ≤ 4000) := ⟨by
    have := hf.op.bounds; have := hf.sz; have := hk.sz
    have := parts_le (fun p hp => (hf.op.arg p hp).1); have := hf.op.sizes.1
    omega⟩
  obtain ⟨Av, cv, hv, -⟩ := hx.sl
  subst hv
  obtain ⟨a, f, vw, vt⟩ := c
  obtain ⟨Aw, cw, hvw, -⟩ := h.way.sl
  obtain ⟨At, ct, hvt, -⟩ := h.wts.sl
  dsimp only at hvw hvt ⊢
  subst hvw hvt
  have HW0 := Hd.mk hW0
  have HB0 := Hd.mk hb0
  have HBX := Hd.mk hbx
  have HL := Hd.mk h
  have HG := Hd.mk hg
  have HX := Hd.mk hx
  have HF := Hd.mk hf
  have HO := Hd.mk ho
  have HK := Hd.mk hk
  obtain ⟨z0, z1, z2, z3, z4, z5, z6, z7, z8, z9⟩ := h.cells
  have lt := h.frozen.2
  clear hb0 hbx h hg hx hf ho hk hW0
  go_enter Tryz.func131, Tryz.ntmps131
  go_upto_region 3 with fail
  rw [← HW0.out]
  obtain ⟨y0, y1, y2, y3, y4, y5, y6, y7, y8, y9⟩ := (HL.out.below HB0.out).cells
  obtain ⟨b0, b1, b2⟩ := three_cells HBX.out
  have hqA : ∀ d os, Calls Tryz.prog 94 #[.slice Av e.op.length cv, .string ⟨(U.encs C.seen).toArray⟩] (grow (redrawn W0 d) os) fun e' w'' => e' = .returned (.tuple #[.string ⟨(U.encs (rap Z C.seen)).toArray⟩, .nilIface]) ∧ ∃ p : Regrown, w'' = grow (redrawn W0 p.d) p.os := fun d os =>
    Calls.regrown_of (apply_ok (HG.out.1.below (bstep HB0.out (below_regrown W0 d os))) (HX.out.sl.below (bstep HB0.out (below_regrown W0 d os))) HF.out.op HK.out.all (by have := HSEEN.out; omega) (by have := HSEEN.out; omega))
  have k2 := cell_regrown y2
  have kb2 := cell_regrown b2
  refine wp_region_quiet_below (by kernel_rfl) (by kernel_rfl) ?_
  repeat (quiet_step (exact hqA _ _))
  refine wpQuiet_nil ?_
  rintro _ ⟨⟨dq, oq⟩, rfl⟩
  have hb1 := bstep HB0.out (below_regrown W0 dq oq)
  have hbx1 := HBX.out.below (below_regrown W0 dq oq) HBX.out.lt
  generalize grow (redrawn W0 dq) oq = w1 at hb1 hbx1 ⊢
  have HB1 := Hd.mk hb1
  clear hqA k2 kb2 y0 y1 y2 y3 y4 y5 y6 y7 y8 y9 b0 b1 b2 z0 z1 z2 z3 z4 z5 z6 z7 z8 z9
  obtain ⟨z0, z1, z2, z3, z4, z5, z6, z7, z8, z9⟩ := (HL.out.below hb1).cells
  obtain ⟨b0, b1, b2⟩ := three_cells hbx1
  have HBX1 := Hd.mk hbx1
  have lt1 : a < w1.heap.size := Nat.lt_of_lt_of_le lt hb1.size
  clear hb1 hbx1
  go_upto_region 6 with fail
  go_cut [55] from 34 to 55 (fun sv wx => sv = .bool false ∧ Below w1.heap.size w1 wx)
  case first =>
    by_cases h1 : e.who = C.who
    · have hq1 : (e.who == C.who) = true := by rw [h1]; exact beq_self_eq_true _
      cases hh : C.has
      · rw [hh] at z7
        clear h1 hh
        go_quiet (fail)
        go_wp2
        go_meet
        exact ⟨rfl, ex_drewN nq (Below.refl _ _)⟩
      · have hid : (e.id == C.id) = false := by rw [beq_eq_false_iff_ne]; exact fun h2 => HO.out ⟨h1, hh, h2⟩
        rw [hh] at z7
        clear h1 hh
        go_quiet (fail)
        go_wp2
        go_meet
        exact ⟨rfl, ex_drewN nq (Below.refl _ _)⟩
    · have hq1 : (e.who == C.who) = false := by rw [beq_eq_false_iff_ne]; exact h1
      clear h1
      go_quiet (fail)
      go_wp2
      go_meet
      exact ⟨rfl, ex_drewN nq (Below.refl _ _)⟩
  case rest =>
    obtain ⟨rfl, hb2⟩ := hcut
    obtain ⟨w2, rfl⟩ : ∃ W, W = wc := ⟨_, rfl⟩
    have hx2 := bstep HB1.out hb2
    have hbx2 := HBX1.out.below hb2 HBX1.out.lt
    have HB2 := Hd.mk hx2
    have HBX2 := Hd.mk hbx2
    clear z0 z1 z2 z3 z4 z5 z6 z7 z8 z9 b0 b1 b2
    obtain ⟨z0, z1, z2, z3, z4, z5, z6, z7, z8, z9⟩ := (HL.out.below hx2).cells
    obtain ⟨b0, b1, b2⟩ := three_cells hbx2
    have lt2 : a < w2.heap.size := Nat.lt_of_lt_of_le lt hx2.size
    clear hb2 hx2 hbx2 lt1
    go_upto_region 17 with fail
    go_quiet (fail)
    have hx3 := ex_drewN nq HB2.out
    generalize w2.drewN nq = w3 at hx3 ⊢
    clear HB2 HBX2 HB1 HBX1 HB0 HBX HW0 z0 z1 z2 z3 z4 z5 z6 z7 z8 z9 b0 b1 b2 lt2
    have HB3 := Hd.mk hx3
    obtain ⟨⟨V, hV, hpv⟩, hpa, -, -⟩ := HK.out.over_ HF.out
    have HV := Hd.mk (And.intro hV hpv)
    have HPA := Hd.mk hpa
    have HOK := Hd.mk (HK.out.over_ HF.out).2.2.1.doc_
    have hl : (C.other e).doc = rap V C.doc := rpl_eq hV HK.out.doc_.1
    have HDOC := Hd.mk hl
    have HSN := Hd.mk (HK.out.over_ HF.out).2.2.2
    have HLX := Hd.mk (HL.out.below hx3)
    have HGX := Hd.mk (HG.out.below hx3 (Grow.refl _ _))
    have HXX := Hd.mk (HX.out.below hx3 (Grow.refl _ _))
    have HDB : Hd (bl C.doc ≤ 6000 ∧ bl (rap V C.doc) ≤ 8000) := ⟨by rw [← hl]; have := HOK.out.2; have := HK.out.doc_.2; omega⟩
    obtain ⟨z0, z1, z2, z3, z4, z5, z6, z7, z8, z9⟩ := HLX.out.cells
    have lt3 := HLX.out.frozen.2
    clear hx3 hpa hV hpv hl
    cases hh : C.has
    · have hm := (HK.out.no hh).1
      rw [hh] at z7
      rw [hm] at z8
      have hover : C.over e = e.op := by unfold CV.over CV.past; rw [hm, hh]; rfl
      have hway : (C.other e).way = C.way := by unfold CV.other; dsimp only; rw [hh]; rfl
      have hwts : (C.other e).waits = C.waits := by unfold CV.other; dsimp only; rw [hm]; rfl
      have HH := Hd.mk (And.intro hway hwts)
      have HLY := Hd.mk (clays_calls HLX.out HGX.out HXX.out (by rw [← hover]; exact HV.out.1) (by have := HSEEN.out; omega) (by have := HSEEN.out; omega) HDB.out.2)
      clear hh hm hover hway hwts
      go_wp2_with fail
      refine HLY.out.mono ?_
      rintro e' w7 ⟨rfl, ho7, hs7⟩
      have HO7 := Hd.mk (ho7)
      have HS7 := Hd.mk (hs7)
      clear z0 z1 z2 z3 z4 z5 z6 z7 z8 z9
      obtain ⟨⟨z0, z1, z2, z3, z4, z5, z6, z7, z8, z9⟩, fz, lt7⟩ := HLX.out.cells_only HO7.out
      have HN7 := Hd.mk ho7
      clear ho7 hs7
      go_wp2_with fail
      go_ret
      have hd := CliP.done (C' := C.other e) (vw := .slice Aw C.way.length cw) (vt := .slice At C.waits.length ct) HLX.out HO7.out (by rw [HDOC.out]; exact HS7.out) ⟨rfl, rfl, rfl, rfl, rfl, rfl⟩ (by rw [HH.out.1]; exact HLX.out.way.still HO7.out (HLX.out.sub _ (.inr rfl))) (by rw [HH.out.2]; exact HLX.out.wts.still HO7.out (HLX.out.sub _ (.inr rfl)))
      rw [HSN.out] at hd
      exact CliP.from_ HB3.out hd
    · cases hm : C.more
      · have hpast : C.past e = trl true e.op C.way := by unfold CV.past; rw [hh]; rfl
        have hway : (C.other e).way = trl false C.way e.op := by unfold CV.other; dsimp only; rw [hh]; rfl
        have hover : C.over e = C.past e := by unfold CV.over; rw [hm]; rfl
        have hwts : (C.other e).waits = C.waits := by unfold CV.other; dsimp only; rw [hm]; rfl
        obtain ⟨X, hX, hpw, hn0, hy0⟩ := HK.out.yes hh
        obtain ⟨VP, hVP, hpp⟩ := HPA.out X hh hX
        rw [hpast] at hVP hpp hover
        have HXP := Hd.mk (And.intro hX (And.intro hpw (And.intro hVP hpp)))
        have HBX : Hd (bl (rap X C.seen) ≤ 4000) := ⟨by have := hX.bounds; have := HSEEN.out.1; omega⟩
        have HHH := Hd.mk (And.intro hh hm)
        have HH := Hd.mk (And.intro hway hwts)
        have HVO := Hd.mk HV.out
        rw [hover] at HVO
        have HPL : Hd (plen (trl true e.op C.way) ≤ 2000 ∧ (trl true e.op C.way).length ≤ 100000) := ⟨by have h1 := HVO.out.2; have h2 := HVO.out.1.sizes.1; have h3 := parts_le (fun p hp => (HVO.out.1.arg p hp).1); have h4 := HSEEN.out; have h5 := HDB.out.1; omega⟩
        rw [hh] at z7
        rw [hm] at z8
        clear hh hm hpast hway hover hX hpw hn0 hy0 hVP hpp hwts
        go_wp2_with fail
        refine (trans_ok (first := false) HGX.out.1 HLX.out.way.sl HXX.out.sl HXP.out.1 HF.out.op (by have := HSEEN.out; omega) (by have := HXP.out.2.1; omega) (by have := HSEEN.out; omega)).mono ?_
        rintro e' w4 ⟨hb4, v4, rfl, hs4, hf4⟩
        have HS4 := Hd.mk hs4
        have HF4 := Hd.mk hf4
        have HC4 := Hd.mk hb4
        have HB4 := Hd.mk (hb4)
        obtain ⟨A4, c4, rfl, -⟩ := hs4
        clear z0 z1 z2 z3 z4 z5 z6 z7 z8 z9
        obtain ⟨z0, z1, z2, z3, z4, z5, z6, z7, z8, z9⟩ := (HLX.out.below HB4.out).cells
        rw [HHH.out.1] at z7
        rw [HHH.out.2] at z8
        clear hb4 hf4
        go_wp2_with fail
        refine (trans_ok (first := true) (HGX.out.1.below HB4.out) (HXX.out.sl.below HB4.out) (HLX.out.way.sl.below HB4.out) HF.out.op HXP.out.1 (by have := HSEEN.out; omega) (by have := HSEEN.out; omega) (by have := HXP.out.2.1; omega)).mono ?_
        rintro e' w5 ⟨hb5, v5, rfl, hs5, hf5⟩
        have HS5 := Hd.mk hs5
        have HF5 := Hd.mk hf5
        have HC5 := Hd.mk hb5
        have HB5 := Hd.mk (bstep HB4.out hb5)
        obtain ⟨A5, c5, rfl, -⟩ := hs5
        clear z0 z1 z2 z3 z4 z5 z6 z7 z8 z9
        obtain ⟨z0, z1, z2, z3, z4, z5, z6, z7, z8, z9⟩ := (HLX.out.below HB5.out).cells
        rw [HHH.out.1] at z7
        rw [HHH.out.2] at z8
        clear hb5 hf5
        have hfl : ∀ j, F j → j < w3.heap.size := HLX.out.flt
        have HOX := Hd.mk (OpO.frs HS5.out (HF5.out.mono HB4.out.size) hfl)
        have HLY := Hd.mk (clays_calls (HLX.out.below HB5.out) (HGX.out.below HB5.out (Grow.refl _ _)) HOX.out HVO.out.1 (by have := HPL.out.1; omega) HPL.out.2 HDB.out.2)
        clear hfl
        go_wp2_with fail
        refine HLY.out.mono ?_
        rintro e' w7 ⟨rfl, ho7, B, hB, hs7⟩
        have HO7 : Hd (Only (fun k => k = f) w3 w7) := ⟨(Only.of_below HB5.out).trans ho7⟩
        have HS7 : Hd (∃ B, w3.heap.size ≤ B ∧ ShF B w7 f C.unit (rap V C.doc)) := ⟨B, Nat.le_trans HB5.out.size hB, hs7⟩
        have HN7 : Hd (Only (fun k => k = f) w5 w7) := ⟨ho7⟩
        clear z0 z1 z2 z3 z4 z5 z6 z7 z8 z9 hB hs7 ho7
        obtain ⟨⟨z0, z1, z2, z3, z4, z5, z6, z7, z8, z9⟩, fz, lt7⟩ := HLX.out.cells_only HO7.out
        go_wp2_with fail
        go_ret
        have hd := CliP.done (C' := C.other e) (vw := .slice A4 (trl false C.way e.op).length c4) (vt := .slice At C.waits.length ct) HLX.out HO7.out (by rw [HDOC.out]; exact HS7.out) ⟨rfl, rfl, rfl, rfl, rfl, rfl⟩ (by rw [HH.out.1]; exact OpO.fresh HLX.out.flt (Nat.le_refl _) (HS4.out.below HC5.out) HF4.out HN7.out (HLX.out.sub _ (.inr rfl))) (by rw [HH.out.2]; exact HLX.out.wts.still HO7.out (HLX.out.sub _ (.inr rfl)))
        rw [HSN.out] at hd
        exact CliP.from_ HB3.out hd
      · have hpast : C.past e = trl true e.op C.way := by unfold CV.past; rw [hh]; rfl
        have hway : (C.other e).way = trl false C.way e.op := by unfold CV.other; dsimp only; rw [hh]; rfl
        have hover : C.over e = trl true (C.past e) C.waits := by unfold CV.over; rw [hm]; rfl
        have hwts : (C.other e).waits = trl false C.waits (C.past e) := by unfold CV.other; dsimp only; rw [hm]; rfl
        obtain ⟨X, hX, hpw, hn0, hy0⟩ := HK.out.yes hh
        obtain ⟨VP, hVP, hpp⟩ := HPA.out X hh hX
        rw [hpast] at hVP hpp hover hwts
        have HXP := Hd.mk (And.intro hX (And.intro hpw (And.intro hVP hpp)))
        have HBX : Hd (bl (rap X C.seen) ≤ 4000) := ⟨by have := hX.bounds; have := HSEEN.out.1; omega⟩
        obtain ⟨Y, hY, hpy, -⟩ := hy0 hm
        have HY := Hd.mk (And.intro hY hpy)
        have HHH := Hd.mk (And.intro hh hm)
        have HH := Hd.mk (And.intro hway hwts)
        have HVO := Hd.mk HV.out
        rw [hover] at HVO
        have HPL : Hd (plen (trl true (trl true e.op C.way) C.waits) ≤ 2000 ∧ (trl true (trl true e.op C.way) C.waits).length ≤ 100000) := ⟨by have h1 := HVO.out.2; have h2 := HVO.out.1.sizes.1; have h3 := parts_le (fun p hp => (HVO.out.1.arg p hp).1); have h4 := HSEEN.out; have h5 := HDB.out.1; omega⟩
        rw [hh] at z7
        rw [hm] at z8
        clear hh hm hpast hway hover hX hpw hn0 hy0 hVP hpp hpy hY hwts
        go_wp2_with fail
        refine (trans_ok (first := false) HGX.out.1 HLX.out.way.sl HXX.out.sl HXP.out.1 HF.out.op (by have := HSEEN.out; omega) (by have := HXP.out.2.1; omega) (by have := HSEEN.out; omega)).mono ?_
        rintro e' w4 ⟨hb4, v4, rfl, hs4, hf4⟩
        have HS4 := Hd.mk hs4
        have HF4 := Hd.mk hf4
        have HC4 := Hd.mk hb4
        have HB4 := Hd.mk (hb4)
        obtain ⟨A4, c4, rfl, -⟩ := hs4
        clear z0 z1 z2 z3 z4 z5 z6 z7 z8 z9
        obtain ⟨z0, z1, z2, z3, z4, z5, z6, z7, z8, z9⟩ := (HLX.out.below HB4.out).cells
        rw [HHH.out.1] at z7
        rw [HHH.out.2] at z8
        clear hb4 hf4
        go_wp2_with fail
        refine (trans_ok (first := true) (HGX.out.1.below HB4.out) (HXX.out.sl.below HB4.out) (HLX.out.way.sl.below HB4.out) HF.out.op HXP.out.1 (by have := HSEEN.out; omega) (by have := HSEEN.out; omega) (by have := HXP.out.2.1; omega)).mono ?_
        rintro e' w5 ⟨hb5, v5, rfl, hs5, hf5⟩
        have HS5 := Hd.mk hs5
        have HF5 := Hd.mk hf5
        have HC5 := Hd.mk hb5
        have HB5 := Hd.mk (bstep HB4.out hb5)
        obtain ⟨A5, c5, rfl, -⟩ := hs5
        clear z0 z1 z2 z3 z4 z5 z6 z7 z8 z9
        obtain ⟨z0, z1, z2, z3, z4, z5, z6, z7, z8, z9⟩ := (HLX.out.below HB5.out).cells
        rw [HHH.out.1] at z7
        rw [HHH.out.2] at z8
        clear hb5 hf5
        go_wp2_with fail
        refine (trans_ok (first := false) (HGX.out.1.below HB5.out) (HLX.out.wts.sl.below HB5.out) HS5.out HY.out.1 HXP.out.2.2.1 (by have := HBX.out; omega) (by have := HY.out.2; omega) (by have := HXP.out.2.2.2; have := HSEEN.out; omega)).mono ?_
        rintro e' w6 ⟨hb6, v6, rfl, hs6, hf6⟩
        have HS6 := Hd.mk hs6
        have HF6 := Hd.mk hf6
        have HC6 := Hd.mk hb6
        have HB6 := Hd.mk (bstep HB5.out hb6)
        obtain ⟨A6, c6, rfl, -⟩ := hs6
        clear z0 z1 z2 z3 z4 z5 z6 z7 z8 z9
        obtain ⟨z0, z1, z2, z3, z4, z5, z6, z7, z8, z9⟩ := (HLX.out.below HB6.out).cells
        rw [HHH.out.1] at z7
        rw [HHH.out.2] at z8
        clear hb6 hf6
        go_wp2_with fail
        refine (trans_ok (first := true) (HGX.out.1.below HB6.out) (HS5.out.below HC6.out) (HLX.out.wts.sl.below HB6.out) HXP.out.2.2.1 HY.out.1 (by have := HBX.out; omega) (by have := HXP.out.2.2.2; have := HSEEN.out; omega) (by have := HY.out.2; omega)).mono ?_
        rintro e' w8 ⟨hb8, v8, rfl, hs8, hf8⟩
        have HS8 := Hd.mk hs8
        have HF8 := Hd.mk hf8
        have HC8 := Hd.mk hb8
        have HB8 := Hd.mk (bstep HB6.out hb8)
        obtain ⟨A8, c8, rfl, -⟩ := hs8
        clear z0 z1 z2 z3 z4 z5 z6 z7 z8 z9
        obtain ⟨z0, z1, z2, z3, z4, z5, z6, z7, z8, z9⟩ := (HLX.out.below HB8.out).cells
        rw [HHH.out.1] at z7
        rw [HHH.out.2] at z8
        clear hb8 hf8
        have hfl : ∀ j, F j → j < w3.heap.size := HLX.out.flt
        have HOX := Hd.mk (OpO.frs HS8.out (HF8.out.mono HB6.out.size) hfl)
        have HLY := Hd.mk (clays_calls (HLX.out.below HB8.out) (HGX.out.below HB8.out (Grow.refl _ _)) HOX.out HVO.out.1 (by have := HPL.out.1; omega) HPL.out.2 HDB.out.2)
        clear hfl
        go_wp2_with fail
        refine HLY.out.mono ?_
        rintro e' w7 ⟨rfl, ho7, B, hB, hs7⟩
        have HO7 : Hd (Only (fun k => k = f) w3 w7) := ⟨(Only.of_below HB8.out).trans ho7⟩
        have HS7 : Hd (∃ B, w3.heap.size ≤ B ∧ ShF B w7 f C.unit (rap V C.doc)) := ⟨B, Nat.le_trans HB8.out.size hB, hs7⟩
        have HN7 : Hd (Only (fun k => k = f) w8 w7) := ⟨ho7⟩
        clear z0 z1 z2 z3 z4 z5 z6 z7 z8 z9 hB hs7 ho7
        obtain ⟨⟨z0, z1, z2, z3, z4, z5, z6, z7, z8, z9⟩, fz, lt7⟩ := HLX.out.cells_only HO7.out
        go_wp2_with fail
        go_ret
        have hd := CliP.done (C' := C.other e) (vw := .slice A4 (trl false C.way e.op).length c4) (vt := .slice A6 (trl false C.waits (trl true e.op C.way)).length c6) HLX.out HO7.out (by rw [HDOC.out]; exact HS7.out) ⟨rfl, rfl, rfl, rfl, rfl, rfl⟩ (by rw [HH.out.1]; exact OpO.fresh HLX.out.flt (Nat.le_refl _) (((HS4.out.below HC5.out).below HC6.out).below HC8.out) HF4.out HN7.out (HLX.out.sub _ (.inr rfl))) (by rw [HH.out.2]; exact OpO.fresh HLX.out.flt HB5.out.size (HS6.out.below HC8.out) HF6.out HN7.out (HLX.out.sub _ (.inr rfl)))
        rw [HSN.out] at hd
        exact CliP.from_ HB3.out hd
end Go.Proofs.YtdgdajnbkfmijaaGreatDoor
/- A client's Take: its own operation; nothing at all. Refused. -/
namespace Go.Proofs.YtdgdajnbkfmijaaGreatDoor
open Go.RowKit Go.Sort
set_option maxRecDepth 100000
theorem ctake_skip {w : World} {F : Nat → Prop} {c : CP} {C : CV} {e : EN} {v : Value} {rev : Int} (h : CliR w F c C) (hr : rev ≠ C.rev) :
    Calls Tryz.prog 131 #[.pointer (some ⟨c.a, 0, none⟩), .int .i64 rev, .agg #[.int .i64 e.who, .int .i64 e.id, v]] w (CliP F c .nilIface C w) := by
  obtain ⟨a, f, vw, vt⟩ := c
  have HL := Hd.mk h
  obtain ⟨z0, z1, z2, z3, z4, z5, z6, z7, z8, z9⟩ := h.cells
  have lt := h.frozen.2
  have hq : (rev == (C.rev : Int)) = false := by rw [beq_eq_false_iff_ne]; exact hr
  clear h hr
  go_enter Tryz.func131, Tryz.ntmps131
  go_wp2_with fail
  go_ret
  exact CliP.same HL.out (ex_alloc (Below.refl _ _) _)
/-- Its own came back. -/
theorem CliP.mine {w w7 : World} {F : Nat → Prop} {C : CV} {e : EN} {a f : Nat} {vw vt : Value} {b : Bool} {i0 : Int} (h : CliR w F ⟨a, f, vw, vt⟩ C) (hb7 : Below w.heap.size w w7) (hm : C.more = b) (hi : (C.own e).id = i0) {w8 : World} (ho : Only (fun k => k = a) w7 w8)
    (hb : Blk w8 a 139 #[.int .i64 C.who, .pointer (some ⟨f, 0, none⟩), .string ⟨(U.encs (C.own e).seen).toArray⟩, .int .i64 ((C.own e).rev : Int), .int .i64 i0, vt, .slice none 0 0, .bool b, .bool false, .int .i64 C.dropped]) :
    CliP F ⟨a, f, vw, vt⟩ .nilIface (C.own e) w (.returned .nilIface) w8 := by
  have h7 := h.below hb7
  refine CliP.from_ hb7 (CliP.turn (vw := vt) (vt := .slice none 0 0) h7 (ho.mono (fun k _ e => .inl e)) ?_ (h7.wts.only (ho.mono (fun k _ e => by subst e; exact h.sub _ (.inl rfl))) (Grow.refl _ _)) (OpO.nil _ _) ?_)
  · subst hm hi
    exact hb
  · exact h7.sh.only ho (fun j e => by subst e; exact h.sub _ (.inl rfl)) (fun e => h.ne e.symm) (Grow.refl _ _)
set_option maxHeartbeats 8000000 in
theorem ctake_own {w : World} {F : Nat → Prop} {c : CP} {C : CV} {e : EN} {v : Value} {T : Int} {Z : List (RU Int)} (h : CliR w F c C) (hg : HdlO F w) (hk : COk T C) (hT : T ≤ 1000000) (hrv : C.rev ≤ 100000) (hx : OpO F w v e.op) (hf : Fit_ C e Z) (ho : C.isOwn e) :
    Calls Tryz.prog 131 #[.pointer (some ⟨c.a, 0, none⟩), .int .i64 (C.rev : Int), .agg #[.int .i64 e.who, .int .i64 e.id, v]] w (CliP F c .nilIface (C.own e) w) := by
  obtain ⟨W0, hW0⟩ : ∃ W, W = w.alloc (.cells #[.int .i64 e.who, .int .i64 e.id, v] 120) := ⟨_, rfl⟩
  have hb0 : Below w.heap.size w W0 := by rw [hW0]; exact ex_alloc (Below.refl _ _) _
  have hbx : Blk W0 w.heap.size 120 #[.int .i64 e.who, .int .i64 e.id, v] := by rw [hW0]; exact Blk.new _ _ _
  have HSEEN : Hd (bl C.seen ≤ 2000 ∧ plen e.op ≤ 2000 ∧ e.op.length ≤ 4000) := ⟨by
    have := hf.op.bounds; have := hf.sz; have := hk.sz
    have := parts_le (fun p hp => (hf.op.arg p hp).1); have := hf.op.sizes.1
    omega⟩
  have hop := hf.own ho
  obtain ⟨Av, cv, hv, -⟩ := hx.sl
  subst hv
  obtain ⟨a, f, vw, vt⟩ := c
  obtain ⟨Aw, cw, hvw, -⟩ := h.way.sl
  obtain ⟨At, ct, hvt, -⟩ := h.wts.sl
  dsimp only at hvw hvt ⊢
  subst hvw hvt
  have hws := h.way.sl
  dsimp only at hws
  rw [← hop] at hws
  have HWS := Hd.mk hws
  have HW0 := Hd.mk hW0
  have HB0 := Hd.mk hb0
  have HBX := Hd.mk hbx
  have HL := Hd.mk h
  have HG := Hd.mk hg
  have HX := Hd.mk hx
  have HF := Hd.mk hf
  have HO := Hd.mk ho
  have HK := Hd.mk hk
  have HSN : Hd ((C.own e).seen = rap Z C.seen) := ⟨rpl_eq hf.op hk.all⟩
  have HID : Hd (-1 ≤ C.id ∧ C.id ≤ 1000000) := ⟨by have := hk.id1; omega⟩
  obtain ⟨z0, z1, z2, z3, z4, z5, z6, z7, z8, z9⟩ := h.cells
  have lt := h.frozen.2
  have HOP := Hd.mk (congrArg List.length hop)
  clear hb0 hbx h hg hx hf ho hk hW0 hop hws
  go_enter Tryz.func131, Tryz.ntmps131
  go_upto_region 3 with fail
  rw [← HW0.out]
  obtain ⟨y0, y1, y2, y3, y4, y5, y6, y7, y8, y9⟩ := (HL.out.below HB0.out).cells
  obtain ⟨b0, b1, b2⟩ := three_cells HBX.out
  have hqA : ∀ d os, Calls Tryz.prog 94 #[.slice Av e.op.length cv, .string ⟨(U.encs C.seen).toArray⟩] (grow (redrawn W0 d) os) fun e' w'' => e' = .returned (.tuple #[.string ⟨(U.encs (rap Z C.seen)).toArray⟩, .nilIface]) ∧ ∃ p : Regrown, w'' = grow (redrawn W0 p.d) p.os := fun d os =>
    Calls.regrown_of (apply_ok (HG.out.1.below (bstep HB0.out (below_regrown W0 d os))) (HX.out.sl.below (bstep HB0.out (below_regrown W0 d os))) HF.out.op HK.out.all (by have := HSEEN.out; omega) (by have := HSEEN.out; omega))
  have k2 := cell_regrown y2
  have kb2 := cell_regrown b2
  refine wp_region_quiet_below (by kernel_rfl) (by kernel_rfl) ?_
  repeat (quiet_step (exact hqA _ _))
  refine wpQuiet_nil ?_
  rintro _ ⟨⟨dq, oq⟩, rfl⟩
  have hb1 := bstep HB0.out (below_regrown W0 dq oq)
  have hbx1 := HBX.out.below (below_regrown W0 dq oq) HBX.out.lt
  generalize grow (redrawn W0 dq) oq = w1 at hb1 hbx1 ⊢
  have HB1 := Hd.mk hb1
  clear hqA k2 kb2 y0 y1 y2 y3 y4 y5 y6 y7 y8 y9 b0 b1 b2 z0 z1 z2 z3 z4 z5 z6 z7 z8 z9
  obtain ⟨z0, z1, z2, z3, z4, z5, z6, z7, z8, z9⟩ := (HL.out.below hb1).cells
  obtain ⟨b0, b1, b2⟩ := three_cells hbx1
  have HBX1 := Hd.mk hbx1
  have lt1 : a < w1.heap.size := Nat.lt_of_lt_of_le lt hb1.size
  clear hb1 hbx1
  go_upto_region 6 with fail
  go_cut [55] from 34 to 55 (fun sv wx => sv = .bool true ∧ Below w1.heap.size w1 wx)
  case first =>
    have hq1 : (e.who == C.who) = true := by rw [HO.out.1]; exact beq_self_eq_true _
    have hid : (e.id == C.id) = true := by rw [HO.out.2.2]; exact beq_self_eq_true _
    rw [HO.out.2.1] at z7
    go_quiet (fail)
    go_wp2
    go_meet
    exact ⟨rfl, ex_drewN nq (Below.refl _ _)⟩
  case rest =>
    obtain ⟨rfl, hb2⟩ := hcut
    obtain ⟨w2, rfl⟩ : ∃ W, W = wc := ⟨_, rfl⟩
    have hx2 := bstep HB1.out hb2
    have HB2 := Hd.mk hx2
    clear z0 z1 z2 z3 z4 z5 z6 z7 z8 z9 b0 b1 b2
    obtain ⟨z0, z1, z2, z3, z4, z5, z6, z7, z8, z9⟩ := (HL.out.below hx2).cells
    have lt2 : a < w2.heap.size := Nat.lt_of_lt_of_le lt hx2.size
    clear hb2 hx2 lt1
    go_upto_region 7 with fail
    rw [← HOP.out] at z5
    have hqA : ∀ d os, Calls Tryz.prog 94 #[.slice Aw e.op.length cw, .string ⟨(U.encs C.seen).toArray⟩] (grow (redrawn w2 d) os) fun e' w'' => e' = .returned (.tuple #[.string ⟨(U.encs (rap Z C.seen)).toArray⟩, .nilIface]) ∧ ∃ p : Regrown, w'' = grow (redrawn w2 p.d) p.os := fun d os =>
      Calls.regrown_of (apply_ok (HG.out.1.below (bstep HB2.out (below_regrown w2 d os))) (HWS.out.below (bstep HB2.out (below_regrown w2 d os))) HF.out.op HK.out.all (by have := HSEEN.out; omega) (by have := HSEEN.out; omega))
    have k2 := cell_regrown z2
    have k5 := cell_regrown z5
    refine wp_region_quiet_below (by kernel_rfl) (by kernel_rfl) ?_
    repeat (quiet_step (exact hqA _ _))
    refine wpQuiet_nil ?_
    rintro _ ⟨⟨dq2, oq2⟩, rfl⟩
    have hx3 := bstep HB2.out (below_regrown w2 dq2 oq2)
    generalize grow (redrawn w2 dq2) oq2 = w3 at hx3 ⊢
    clear HB2 HBX1 HB1 HB0 HBX HW0 z0 z1 z2 z3 z4 z5 z6 z7 z8 z9 lt2 hqA k2 k5
    have HB3 := Hd.mk hx3
    obtain ⟨z0, z1, z2, z3, z4, z5, z6, z7, z8, z9⟩ := (HL.out.below hx3).cells
    obtain ⟨fz, lt3⟩ := (HL.out.below hx3).frozen
    have HBK : Hd (Blk w3 a 139 _) := ⟨(HL.out.below hx3).blk⟩
    clear hx3
    go_upto_region 11 with fail
    have hn := (HBK.out.set_ 2 (.string ⟨(U.encs (rap Z C.seen)).toArray⟩)).set_ 3 (.int .i64 ((C.rev : Int) + 1))
    have hO : Only (fun k => k = a) w3 ((w3.setCell ⟨a, 2, none⟩ (.string ⟨(U.encs (rap Z C.seen)).toArray⟩)).setCell ⟨a, 3, none⟩ (.int .i64 ((C.rev : Int) + 1))) := ((Only.refl (fun k => k = a) w3).setCell (p := ⟨a, 2, none⟩) (.inl rfl) _).setCell (p := ⟨a, 3, none⟩) (.inl rfl) _
    generalize (w3.setCell ⟨a, 2, none⟩ (.string ⟨(U.encs (rap Z C.seen)).toArray⟩)).setCell ⟨a, 3, none⟩ (.int .i64 ((C.rev : Int) + 1)) = w4 at hn hO ⊢
    clear z0 z1 z2 z3 z4 z5 z6 z7 z8 z9 fz lt3
    have HN := Hd.mk hn
    have HO4 := Hd.mk hO
    obtain ⟨z0, z1, z2, z3, z4, z5, z6, z7, z8, z9⟩ := ten_cells hn
    have fz := hn.frozen
    have lt4 := hn.lt
    clear hn hO
    go_cut [] from 85 to 98 (fun wx => wx = ((w4.setCell ⟨a, 5, none⟩ (.slice At C.waits.length ct)).setCell ⟨a, 7, none⟩ (.bool C.more)).drew)
    case first =>
      go_region
      all_goals
        go_wp2
        go_meet
        rfl
    case rest =>
      subst hcut
      have hn := (HN.out.set_ 5 (.slice At C.waits.length ct)).set_ 7 (.bool C.more)
      have hO : Only (fun k => k = a) w4 ((w4.setCell ⟨a, 5, none⟩ (.slice At C.waits.length ct)).setCell ⟨a, 7, none⟩ (.bool C.more)) := ((Only.refl (fun k => k = a) w4).setCell (p := ⟨a, 5, none⟩) (.inl rfl) _).setCell (p := ⟨a, 7, none⟩) (.inl rfl) _
      have hn := hn.below (ex_drew (Below.refl _ _)) hn.lt
      have hO := hO.drew
      generalize ((w4.setCell ⟨a, 5, none⟩ (.slice At C.waits.length ct)).setCell ⟨a, 7, none⟩ (.bool C.more)).drew = w5 at hn hO ⊢
      clear z0 z1 z2 z3 z4 z5 z6 z7 z8 z9 fz lt4
      have HN5 := Hd.mk hn
      have HO5 := Hd.mk hO
      obtain ⟨z0, z1, z2, z3, z4, z5, z6, z7, z8, z9⟩ := ten_cells hn
      have fz := hn.frozen
      have lt5 := hn.lt
      have hO2 : Only (fun k => k = a) w5 ((w5.setCell ⟨a, 6, none⟩ (.slice none 0 0)).setCell ⟨a, 8, none⟩ (.bool false)) := ((Only.refl (fun k => k = a) w5).setCell (p := ⟨a, 6, none⟩) (.inl rfl) _).setCell (p := ⟨a, 8, none⟩) (.inl rfl) _
      have hn2 := (hn.set_ 6 (.slice none 0 0)).set_ 8 (.bool false)
      have HO6 := Hd.mk hO2
      have HN6 := Hd.mk hn2
      clear hn hO hO2 hn2
      cases hm : C.more
      · rw [hm] at z7
        have HM := Hd.mk hm
        clear hm
        go_wp2_with fail
        go_ret
        have hn := HN6.out
        rw [HM.out] at hn
        refine CliP.mine (b := false) (i0 := C.id) HL.out HB3.out HM.out (by unfold CV.own; dsimp only; rw [HM.out]; rfl) ((HO4.out.trans HO5.out).trans HO6.out) ?_
        rw [HSN.out]
        exact hn
      · rw [hm] at z7
        have HM := Hd.mk hm
        have HI := HID.out
        clear hm
        go_wp2_with fail
        go_ret
        have hn := HN6.out.set_ 4 (.int .i64 (C.id + 1))
        rw [HM.out] at hn
        refine CliP.mine (b := true) (i0 := C.id + 1) HL.out HB3.out HM.out (by unfold CV.own; dsimp only; rw [HM.out]; rfl) (((HO4.out.trans HO5.out).trans HO6.out).setCell (p := ⟨a, 4, none⟩) (.inl rfl) (.int .i64 (C.id + 1))) ?_
        rw [HSN.out]
        exact hn
/-- Refused: nothing of that number is on its way. -/
theorem crefused_skip {w : World} {F : Nat → Prop} {c : CP} {C : CV} {id : Int} (h : CliR w F c C) (hr : ¬ (C.has = true ∧ id = C.id)) :
    Calls Tryz.prog 132 #[.pointer (some ⟨c.a, 0, none⟩), .int .i64 id] w (CliP F c (.tuple #[]) C w) := by
  obtain ⟨a, f, vw, vt⟩ := c
  have HL := Hd.mk h
  obtain ⟨z0, z1, z2, z3, z4, z5, z6, z7, z8, z9⟩ := h.cells
  have lt := h.frozen.2
  clear h
  cases hh : C.has
  · rw [hh] at z7
    clear hh hr
    go_enter Tryz.func132, Tryz.ntmps132
    go_wp2_with fail
    go_end0
    exact CliP.same HL.out (Below.refl _ _)
  · rw [hh] at z7
    have hq : (id == C.id) = false := by rw [beq_eq_false_iff_ne]; exact fun e => hr ⟨hh, e⟩
    clear hh hr
    go_enter Tryz.func132, Tryz.ntmps132
    go_wp2_with fail
    go_end0
    exact CliP.same HL.out (Below.refl _ _)
theorem ShF.only {w w' : World} {S : Nat → Prop} {B f : Nat} {u : Int} {R : List Int} (h : ShF B w f u R) (ho : Only S w w') (hs : ∀ k, S k → k < B) (hf : ¬ S f) : ShF B w' f u R := by
  obtain ⟨t, vh, vr, a, b, c, d⟩ := h.ex
  exact ⟨h.all, h.u1, h.sz, t, vh, vr, a.only ho hf, b.frs c d ho hs, c, d⟩
theorem ShF.below {w w' : World} {B f : Nat} {u : Int} {R : List Int} (h : ShF B w f u R) (hb : Below w.heap.size w w') : ShF B w' f u R := h.only (S := fun _ => False) (Only.of_below hb) (fun _ e => e.elim) (fun e => e)
/-- A document of what was seen, put in the place of the client's. -/
def NewDoc (a : Nat) (C : CV) (vw vt : Value) (w wx : World) : Prop :=
  ∃ f', Only (fun k => k = a) w wx ∧ Blk wx a 139 #[.int .i64 C.who, .pointer (some ⟨f', 0, none⟩), .string ⟨(U.encs C.seen).toArray⟩, .int .i64 (C.rev : Int), .int .i64 C.id, vw, vt, .bool true, .bool C.more, .int .i64 C.dropped] ∧
    w.heap.size ≤ f' ∧ f' < wx.heap.size ∧ ShF (f' + 1) wx f' C.unit C.seen
set_option maxHeartbeats 8000000 in
theorem crefused_calls {w : World} {F : Nat → Prop} {c : CP} {C : CV} {T : Int} (h : CliR w F c C) (hk : COk T C) (hT : T ≤ 1000000) (hr : C.has = true) :
    Calls Tryz.prog 132 #[.pointer (some ⟨c.a, 0, none⟩), .int .i64 C.id] w (CliP F c (.tuple #[]) (C.refused C.id) w) := by
  obtain ⟨a, f, vw, vt⟩ := c
  obtain ⟨Aw, cw, hvw, -⟩ := h.way.sl
  obtain ⟨At, ct, hvt, -⟩ := h.wts.sl
  dsimp only at hvw hvt ⊢
  subst hvw hvt
  have HL := Hd.mk h
  have HK := Hd.mk hk
  obtain ⟨z0, z1, z2, z3, z4, z5, z6, z7, z8, z9⟩ := h.cells
  obtain ⟨fz, lt⟩ := h.frozen
  rw [hr] at z7
  have HBK : Hd (Blk w a 139 _) := ⟨h.blk⟩
  have HU := fun W hb => Hd.mk (unit_calls (h.sh.shs.below hb : ShS W f C.unit C.doc))
  have HSH := fun W => Hd.mk (shnew_new (u := C.unit) (sp_all hk.all) (by show bl C.seen ≤ _; have := hk.sz; omega) W)
  have HR := Hd.mk hr
  have HU1 := Hd.mk (And.intro hk.u hk.sz)
  have HDR : Hd (-1 ≤ C.dropped ∧ C.dropped ≤ 1000000) := ⟨by have := hk.dr; omega⟩
  clear h hk hr
  go_enter Tryz.func132, Tryz.ntmps132
  go_upto_region 1 with fail
  go_cut [] from 17 to 32 (fun wx => NewDoc a C (.slice Aw C.way.length cw) (.slice At C.waits.length ct) w wx)
  case first =>
    go_region_law (first
      | (go_simp; refine ((HU _ (ex_drew (Below.refl _ _))).out).mono ?_; rintro e w1 ⟨rfl, rfl⟩)
      | (go_simp; refine ((HSH _).out).mono ?_; rintro e w5 ⟨hb5, -, -, -, h5⟩; obtain ⟨f5, rfl, hf5, hs5⟩ := h5 HU1.out.1 rfl (by have := HU1.out.2; omega); have hx5 : Below w.heap.size w w5 := (ex_drew (Below.refl _ _)).trans hb5; have hf6 : w.heap.size ≤ f5 := hf5; have H5 := Hd.mk (And.intro hx5 (And.intro hf6 hs5)); obtain ⟨y0, y1, y2, y3, y4, y5, y6, y7, y8, y9⟩ := (HL.out.below hx5).cells; obtain ⟨yf, yl⟩ := (HL.out.below hx5).frozen; clear hb5 h5 hx5 hf5 hf6 hs5))
    all_goals
      go_wp2
      go_meet
      have hO : Only (fun k => k = a) w5 (w5.setCell ⟨a, 1, none⟩ (.pointer (some ⟨f5, 0, none⟩))) := (Only.refl (fun k => k = a) w5).setCell (p := ⟨a, 1, none⟩) (.inl rfl) _
      have hlt := HL.out.frozen.2
      refine ⟨f5, (Only.of_below H5.out.1).trans hO, ?_, H5.out.2.1, ?_, H5.out.2.2.only hO (fun k e => by have := H5.out.2.1; omega) (fun e => by have := H5.out.2.1; omega)⟩
      · have hn := (HBK.out.below H5.out.1 hlt).set_ 1 (.pointer (some ⟨f5, 0, none⟩))
        unfold CP.cells at hn
        rw [HR.out] at hn
        exact hn
      · obtain ⟨t, vh, vr, hb, -⟩ := H5.out.2.2.ex
        have := hb.lt
        simpa using this
  case rest =>
    obtain ⟨f5, hO, hn, h1, h2, h3⟩ := hcut
    obtain ⟨w6, rfl⟩ : ∃ W, W = wc := ⟨_, rfl⟩
    have HO6 := Hd.mk hO
    have HN6 := Hd.mk hn
    have HS6 := Hd.mk (And.intro h1 (And.intro h2 h3))
    clear z0 z1 z2 z3 z4 z5 z6 z7 z8 z9 fz lt hO h1 h2 h3
    obtain ⟨z0, z1, z2, z3, z4, z5, z6, z7, z8, z9⟩ := ten_cells hn
    have fz := hn.frozen
    have lt := hn.lt
    have HI := HDR.out
    clear hn
    go_wp2_with fail
    go_end0
    have hC : C.refused C.id = { C with doc := C.seen, has := false, more := false, way := [], waits := [], dropped := C.dropped + 1 } := by
      unfold CV.refused
      rw [if_pos ⟨HR.out, rfl⟩]
    have hn := ((((HN6.out.set_ 5 (.slice none 0 0)).set_ 6 (.slice none 0 0)).set_ 7 (.bool false)).set_ 8 (.bool false)).set_ 9 (.int .i64 (C.dropped + 1))
    have hO : Only (fun k => k = a) w6 (((((w6.setCell ⟨a, 5, none⟩ (.slice none 0 0)).setCell ⟨a, 6, none⟩ (.slice none 0 0)).setCell ⟨a, 7, none⟩ (.bool false)).setCell ⟨a, 8, none⟩ (.bool false)).setCell ⟨a, 9, none⟩ (.int .i64 (C.dropped + 1))) :=
      (((((Only.refl (fun k => k = a) w6).setCell (p := ⟨a, 5, none⟩) (.inl rfl) _).setCell (p := ⟨a, 6, none⟩) (.inl rfl) _).setCell (p := ⟨a, 7, none⟩) (.inl rfl) _).setCell (p := ⟨a, 8, none⟩) (.inl rfl) _).setCell (p := ⟨a, 9, none⟩) (.inl rfl) _
    have hlt := HL.out.frozen.2
    have hall := HO6.out.trans hO
    have hsz := hO.size
    rw [hC]
    refine ⟨⟨a, f5, .slice none 0 0, .slice none 0 0⟩, rfl, hall.mono (fun k _ e => .inl e), ?_, rfl, fun F' k1 k2 => ?_⟩
    · rintro j (e | e)
      · exact .inl (.inl e)
      · exact .inr (by have := HS6.out.1; dsimp only at e; omega)
    · have kF : ∀ j, F' j → j < f5 ∨ j = f5 := fun j hj => by
        rcases k1 j hj with e | e | e
        · exact .inl (Nat.lt_of_lt_of_le (HL.out.flt j e) HS6.out.1)
        · exact .inl (by dsimp only at e; have := HS6.out.1; omega)
        · exact .inr e
      refine ⟨hn, OpO.nil _ _, OpO.nil _ _, (HS6.out.2.2.only hO (fun k e => by have := HS6.out.1; omega) (fun e => by have := HS6.out.1; omega)).sho (fun j hj => by rcases kF j hj with e | e <;> omega), k2, fun j hj => ?_⟩
      have := HS6.out.2.1
      rcases kF j hj with e | e <;> omega
/-- A new client. -/
def CV.new (who u : Int) (R : List Int) : CV := ⟨who, u, R, R, 0, 0, [], [], false, false, 0⟩
theorem COk.new {who u : Int} {R : List Int} (hu : 1 ≤ u ∧ u ≤ 3) (hR : U.AllR R) (hb : bl R ≤ 2000) : COk 0 (CV.new who u R) :=
  ⟨hu, hR, hb, fun _ => ⟨rfl, rfl, rfl⟩, fun _ => rfl, (fun e => by cases e), ⟨Int.le_refl _, Int.le_refl _⟩, ⟨Int.le_refl _, Int.le_refl _⟩⟩
def CNewPost (who u : Int) (R : List Int) (w : World) (e : Ending) (w' : World) : Prop :=
  Below w.heap.size w w' ∧ (¬ (1 ≤ u ∧ u ≤ 3) → e = .returned (.tuple #[.pointer none, errno 1])) ∧
    (1 ≤ u ∧ u ≤ 3 → ∃ c : CP, e = .returned (.tuple #[.pointer (some ⟨c.a, 0, none⟩), .nilIface]) ∧ (∀ j, c.F j → w.heap.size ≤ j) ∧ (∀ F, (∀ j, c.F j → F j) → (∀ j, F j → c.F j ∨ j < w.heap.size) → CliR w' F c (CV.new who u R)))
set_option maxHeartbeats 4000000 in
theorem cnew_calls {R : List Int} (hR : U.AllR R) (hb : bl R ≤ 2000) (who u : Int) (w : World) :
    Calls Tryz.prog 62 #[.int .i64 who, .int .i64 u, .string ⟨(U.encs R).toArray⟩] w (CNewPost who u R w) := by
  have HSH := Hd.mk (shnew_new (u := u) (sp_all hR) (by show bl R ≤ _; omega) w)
  have HB := Hd.mk hb
  clear hR hb
  by_cases hu : 1 ≤ u ∧ u ≤ 3
  · have HU := Hd.mk hu
    clear hu
    go_enter Tryz.func62, Tryz.ntmps62
    go_wp2_with fail
    refine HSH.out.mono ?_
    rintro e w1 ⟨hb1, -, -, -, h1⟩
    obtain ⟨f, rfl, hf, hs⟩ := h1 HU.out rfl (by have := HB.out; omega)
    have HB1 := Hd.mk hb1
    have HS := Hd.mk (And.intro hf hs)
    clear hb1 h1 hf hs
    go_wp2_with fail
    go_ret2
    have hz := HB1.out.size
    have hfl : f < w1.heap.size := by obtain ⟨t, vh, vr, hb, -⟩ := HS.out.2.ex; exact hb.lt
    refine ⟨ex_alloc HB1.out _, fun h => absurd HU.out h, fun _ => ⟨⟨w1.heap.size, f, .slice none 0 0, .slice none 0 0⟩, rfl, ?_, fun F k1 k2 => ?_⟩⟩
    · rintro j (e | e)
      · dsimp only at e; omega
      · have := HS.out.1; dsimp only at e; omega
    · have hx : Below w1.heap.size w1 (w1.alloc (.cells #[.int .i64 who, .pointer (some ⟨f, 0, none⟩), .string ⟨(U.encs R).toArray⟩, .int .i64 0, .int .i64 0, .slice none 0 0, .slice none 0 0, .bool false, .bool false, .int .i64 0] 139)) := ex_alloc (Below.refl _ _) _
      have hs1 : ShO (fun j => j < f + 1) w1 f u R := HS.out.2.sho (fun j hj => hj)
      have kF : ∀ j, F j → j < f + 1 ∨ w1.heap.size ≤ j := fun j hj => by
        rcases k2 j hj with e | e
        · rcases e with e | e
          · exact .inr (by dsimp only at e; omega)
          · exact .inl (by dsimp only at e; omega)
        · exact .inl (by have := HS.out.1; omega)
      refine ⟨Blk.new w1 _ _, OpO.nil _ _, OpO.nil _ _, ?_, k1, fun j hj => ?_⟩
      · exact hs1.only (G := fun _ => False) (Only.of_below hx) (fun _ e => e.elim) (fun e => e) kF
      · rw [World.size_alloc]
        rcases k2 j hj with e | e
        · rcases e with e | e
          · dsimp only at e; omega
          · dsimp only at e; omega
        · omega
  · have HU := Hd.mk hu
    clear hu
    go_enter Tryz.func62, Tryz.ntmps62
    go_wp2_with fail
    refine HSH.out.mono ?_
    rintro e w1 ⟨hb1, h1, -⟩
    obtain rfl := h1 HU.out
    unfold errno
    have HB1 := Hd.mk hb1
    clear hb1 h1
    go_wp2_with fail
    go_ret2
    exact ⟨HB1.out, fun _ => rfl, fun h => absurd h HU.out⟩
end Go.Proofs.YtdgdajnbkfmijaaGreatDoor
/- slices.ContainsFunc over an operation's parts: whether one puts too much. -/
namespace Go.Proofs.YtdgdajnbkfmijaaGreatDoor
open Go.RowKit Go.Sort
set_option maxRecDepth 100000
theorem plen_mulE {l : List PT} {m : Nat} (h : ∀ p ∈ l, p.put.length ≤ m) : plen l ≤ m * l.length := by
  induction l with
  | nil => simp [plen]
  | cons p l ih =>
    have h1 := h p (by simp)
    have h2 := ih (fun q hq => h q (by simp [hq]))
    rw [plen, List.length_cons, Nat.mul_add]
    omega
section
attribute [local go_sem] add_mk
theorem big_calls (x y : Int) (z : U.Bs) (w : World) : Calls Tryz.prog 71 #[.agg #[.int .i64 x, .int .i64 y, .string ⟨z.toArray⟩]] w fun e w' => e = .returned (.bool (decide (200 < z.length))) ∧ Below w.heap.size w w' := by
  go_enter Tryz.func71, Tryz.ntmps71
  go_wp2_with fail
  go_ret
  have e : decide ((200 : Int) < (z.length : Int)) = decide (200 < z.length) := decide_eq_decide.2 ⟨fun h => by omega, fun h => by omega⟩
  exact ⟨congrArg (fun b => Ending.returned (Value.bool b)) e, ex_alloc (Below.refl _ _) _⟩
set_option maxHeartbeats 4000000 in
theorem indexf_calls {l : List PT} {v : Value} {n : Nat} {w : World} (hsl : Sl w 3 v n (opv l)) (hn : n ≤ 100000) :
    Calls Tryz.prog 106 #[v, .func (.func 71) #[] #[]] w fun e w' => (∃ k : Int, e = .returned (.int .i64 k) ∧ (0 ≤ k ↔ ∃ p ∈ l, 200 < p.put.length)) ∧ Below w.heap.size w w' := by
  have hln : l.length = n := by have := hsl.len; rw [opv_length] at this; omega
  have HSL := Hd.mk hsl
  have HLN := Hd.mk hln
  obtain ⟨A, c, rfl, -⟩ := hsl
  go_enter Tryz.func106, Tryz.ntmps106
  go_wp2_with fail
  go_loopw [8] (fun i wr => ∃ k : Nat, k ≤ n ∧ i = .int .i64 k ∧ (∀ p ∈ l.take k, ¬ 200 < p.put.length) ∧ Below w.heap.size w wr) (fun i _ => n - (intOf i).toNat)
  case atStart => exact ⟨0, by omega, rfl, by simp, (by repeat (first | exact Below.refl _ _ | exact ex_drew (by assumption) | apply ex_drew | apply ex_drewN | apply ex_alloc | assumption))⟩
  case round =>
    obtain ⟨k, hk, rfl, hall, hbel⟩ := hrel
    have HB := Hd.mk hbel
    have HALL := Hd.mk hall
    clear hall
    by_cases hkn : k < n
    · obtain ⟨b, o, c', hv, hlt, c0, c1, c2⟩ := (HSL.out.below hbel).part hkn (by omega)
      cases hv
      have hkl : k < l.length := by omega
      have HNX : Hd (¬ 200 < l[k].put.length → ∀ p ∈ l.take (k + 1), ¬ 200 < p.put.length) := ⟨fun h p hp => by
        rw [List.take_succ_eq_append_getElem (by omega), List.mem_append] at hp
        rcases hp with hp | hp
        · exact HALL.out p hp
        · obtain rfl := List.mem_singleton.1 hp
          exact h⟩
      have HIN : Hd (l[k] ∈ l) := ⟨List.getElem_mem _⟩
      clear hbel HALL
      generalize l[k] = q at *
      obtain ⟨x, y, z⟩ := q
      dsimp only at c0 c1 c2
      go_wp2_with fail
      refine (big_calls x y z _).mono ?_
      rintro e w2 ⟨rfl, hb2⟩
      have HB2 := Hd.mk (bstep HB.out hb2)
      clear hb2
      by_cases hz : 200 < z.length
      · have hd : decide (200 < z.length) = true := decide_eq_true hz
        rw [hd]
        have HZ := Hd.mk hz
        clear hd hz
        go_wp2_with fail
        go_ret
        exact ⟨⟨_, rfl, ⟨fun _ => ⟨_, HIN.out, HZ.out⟩, fun _ => by omega⟩⟩, HB2.out⟩
      · have hd : decide (200 < z.length) = false := decide_eq_false hz
        rw [hd]
        have HZ := Hd.mk hz
        clear hd hz
        go_wp2_with fail
        exact ⟨⟨k + 1, by omega, by go_num, HNX.out HZ.out, HB2.out⟩, by simp only [intOf]; omega⟩
    · obtain rfl : k = n := by omega
      clear hbel
      go_wp2_with fail
      go_ret
      refine ⟨⟨_, rfl, ⟨fun h => by omega, fun ⟨p, hp, h⟩ => absurd h (HALL.out p (by rw [← HLN.out, List.take_length]; exact hp))⟩⟩, HB.out⟩
theorem contf_calls {l : List PT} {v : Value} {n : Nat} {w : World} (hsl : Sl w 3 v n (opv l)) (hn : n ≤ 100000) :
    Calls Tryz.prog 70 #[v, .func (.func 71) #[] #[]] w fun e w' => (∃ b : Bool, e = .returned (.bool b) ∧ (b = true ↔ ∃ p ∈ l, 200 < p.put.length)) ∧ Below w.heap.size w w' := by
  have HI := Hd.mk (indexf_calls hsl hn)
  obtain ⟨A, c, rfl, -⟩ := hsl
  go_enter Tryz.func70, Tryz.ntmps70
  go_wp2_with fail
  refine HI.out.mono ?_
  rintro e w1 ⟨⟨k, rfl, hk⟩, hb1⟩
  have HK := Hd.mk hk
  have HB := Hd.mk hb1
  clear hk hb1
  go_wp2_with fail
  go_ret
  exact ⟨⟨_, rfl, by rw [← HK.out]; exact decide_eq_true_iff⟩, HB.out⟩
end
end Go.Proofs.YtdgdajnbkfmijaaGreatDoor
/- A client's Edit. -/
namespace Go.Proofs.YtdgdajnbkfmijaaGreatDoor
open Go.RowKit Go.Sort
set_option maxRecDepth 100000
/-- It turned, and its document with it. -/
theorem CliP.gen {w w7 w8 : World} {F : Nat → Prop} {C C' : CV} {a f : Nat} {vw vt vw' vt' ev : Value} (h : CliR w F ⟨a, f, vw, vt⟩ C) (ho : Only (fun k => k = f) w w7) (hs : ∃ B, w.heap.size ≤ B ∧ ShF B w7 f C.unit C'.doc) (hu : C'.unit = C.unit) (h1 : OpO F w7 vw' C'.way) (h2 : OpO F w7 vt' C'.waits)
    (ho8 : Only (fun k => k = a) w7 w8) (hb : Blk w8 a 139 (CP.cells ⟨a, f, vw', vt'⟩ C')) : CliP F ⟨a, f, vw, vt⟩ ev C' w (.returned ev) w8 := by
  obtain ⟨B, hB, hs⟩ := hs
  have hne := h.ne
  have hca : ∀ j, j = a → F j := fun j e => h.sub j (.inl e)
  refine CliP.turn h ((ho.mono (fun k _ e => .inr e)).trans (ho8.mono (fun k _ e => .inl e))) hb (h1.only (ho8.mono (fun k _ => hca k)) (Grow.refl _ _)) (h2.only (ho8.mono (fun k _ => hca k)) (Grow.refl _ _)) ?_
  rw [hu]
  exact (hs.sho (fun j hj => Nat.lt_of_lt_of_le (h.flt j hj) hB)).only ho8 hca (fun e => hne e.symm) (Grow.refl _ _)
section
attribute [local go_sem] Cn.v_eq field_cn
set_option maxHeartbeats 8000000 in
theorem cedit_calls {w : World} {F : Nat → Prop} {c : CP} {C : CV} {T : Int} {l : List PT} {v : Value} (h : CliR w F c C) (hg : HdlO F w) (hk : COk T C) (hT : T ≤ 1000000) (hx : OpO F w v l) (hn : l.length ≤ 100000) :
    Calls Tryz.prog 35 #[.pointer (some ⟨c.a, 0, none⟩), v] w (CliP F c (errOf (C.edit l).1) (C.edit l).2 w) := by
  obtain ⟨a, f, vw, vt⟩ := c
  obtain ⟨Aw, cw, hvw, -⟩ := h.way.sl
  obtain ⟨At, ct, hvt, -⟩ := h.wts.sl
  dsimp only at hvw hvt ⊢
  subst hvw hvt
  obtain ⟨Av, cv, hv, -⟩ := hx.sl
  subst hv
  have HL := Hd.mk h
  have HG := Hd.mk hg
  have HK := Hd.mk hk
  have HX := Hd.mk hx
  obtain ⟨z0, z1, z2, z3, z4, z5, z6, z7, z8, z9⟩ := h.cells
  obtain ⟨fz, lt⟩ := h.frozen
  have HD := Hd.mk hk.doc_
  clear h hg hk hx
  by_cases h60 : 60 < l.length
  · have HE : Hd (C.edit l = (4, C)) := ⟨by unfold CV.edit; rw [if_pos (.inl h60)]⟩
    have hi : (60 : Int) < (l.length : Int) := by omega
    go_enter Tryz.func35, Tryz.ntmps35
    go_wp2_with fail
    go_ret
    rw [HE.out]
    exact CliP.same HL.out (Below.refl _ _)
  have hi : ¬ (60 : Int) < (l.length : Int) := by omega
  have HC := Hd.mk (contf_calls HX.out.sl hn)
  by_cases hbig : ∃ p ∈ l, 200 < p.put.length
  · have HE : Hd (C.edit l = (4, C)) := ⟨by unfold CV.edit; rw [if_pos (.inr hbig)]⟩
    have HBG := Hd.mk hbig
    clear hbig
    go_enter Tryz.func35, Tryz.ntmps35
    go_wp2_with (go_at_call 70; refine HC.out.mono ?_; rintro e w1 ⟨⟨b, rfl, hb⟩, hb1⟩; have hbt := hb.2 HBG.out; subst hbt; have HB1 := Hd.mk hb1; clear hb hb1)
    go_ret
    rw [HE.out]
    exact CliP.same HL.out HB1.out
  have HNB := Hd.mk hbig
  have HPL : Hd (plen l ≤ 12000 ∧ l.length ≤ 60) := ⟨by
    have h1 : ∀ p ∈ l, p.put.length ≤ 200 := fun p hp => Nat.le_of_not_lt (fun e => hbig ⟨p, hp, e⟩)
    have := plen_mulE h1
    omega⟩
  have HE0 : Hd (¬ (60 < l.length ∨ ∃ p ∈ l, 200 < p.put.length)) := ⟨fun e => e.elim h60 hbig⟩
  have HRP := fun W => Hd.mk (rope_calls HD.out.1 (by have := HD.out.2; omega) W)
  clear hbig h60
  go_enter Tryz.func35, Tryz.ntmps35
  go_wp2_with (go_at_call 70; refine HC.out.mono ?_; rintro e w1 ⟨⟨b, rfl, hb⟩, hb1⟩; have hbt : b = false := (by cases b with | false => rfl | true => exact absurd (hb.1 rfl) HNB.out); subst hbt; have HB1 := Hd.mk hb1; clear hb hb1 z0 z1 z2 z3 z4 z5 z6 z7 z8 z9; obtain ⟨z0, z1, z2, z3, z4, z5, z6, z7, z8, z9⟩ := (HL.out.below HB1.out).cells)
  refine (shtext_calls (HL.out.below HB1.out).sh.shs).mono ?_
  rintro e w2 ⟨rfl, hb2⟩
  have HB2 := Hd.mk (bstep HB1.out hb2)
  clear hb2
  go_wp2_with fail
  refine (HRP _).out.mono ?_
  rintro e w3 ⟨hb3, p, t, rfl, hat, hgd, hrt⟩
  have HB3 := Hd.mk (bstep HB2.out hb3)
  have HAT := Hd.mk hat
  have HGD := Hd.mk hgd
  have HRT := Hd.mk hrt
  clear hb3 hat hgd hrt z0 z1 z2 z3 z4 z5 z6 z7 z8 z9
  obtain ⟨z0, z1, z2, z3, z4, z5, z6, z7, z8, z9⟩ := (HL.out.below HB3.out).cells
  go_wp2_with fail
  refine (unit_calls (HL.out.below HB3.out).sh.shs).mono ?_
  rintro e w4 ⟨rfl, rfl⟩
  go_wp2_with fail
  refine (to_new (R := C.doc) (u := C.unit) HAT.out HGD.out HRT.out.symm (HG.out.1.below HB3.out) (HX.out.sl.below HB3.out) (fun p hp => by have := plen_mem hp; have := HPL.out.1; omega) (by omega)).mono ?_
  rintro e w5 ⟨⟨hb5, v5, o, k, rfl, hs5, ht5⟩, hf5⟩
  obtain ⟨ho, hk⟩ := tnR_is ht5
  have HB5 := Hd.mk (bstep HB3.out hb5)
  have HC5 := Hd.mk hb5
  have HO := Hd.mk (And.intro ho hk)
  have HT5 := Hd.mk ht5
  have HS5 := Hd.mk hs5
  have HF5 := Hd.mk (hf5 _ _ rfl)
  obtain ⟨A5, c5, rfl, -⟩ := hs5
  clear hb5 ht5 hf5 ho hk z0 z1 z2 z3 z4 z5 z6 z7 z8 z9
  by_cases hk0 : k = 0
  · subst hk0
    obtain ⟨⟨X, hX⟩, hpo, hlo, -⟩ := tnR_opr HK.out.u HT5.out
    have HE1 : Hd (C.edit l = if 2000 < comes o then (12, C) else (0, { C with
      doc := rpl o C.doc
      id := if C.has then C.id else C.id + 1
      way := if C.has then C.way else o
      has := true
      waits := if C.has then (if C.more then cml C.waits o else o) else C.waits
      more := C.has })) := ⟨by unfold CV.edit; rw [if_neg HE0.out, ← HO.out.2, ← HO.out.1, if_neg (fun h => h rfl)]⟩
    have HX1 := Hd.mk (And.intro hX (And.intro hpo hlo))
    have hw1 := hX.sizes.1
    have hw2 := hX.sizes.2
    have hwb := hX.bounds
    have hdb := HD.out.2
    have HW1 : Hd (wrap64 (was o) = (bl C.doc : Int)) := ⟨by rw [hw1]; exact wrap_id (by omega) (by omega)⟩
    have HW2 : Hd (wrap64 (comes o) = comes o) := ⟨wrap_id (by omega) (by have := HPL.out; omega)⟩
    have HRPL := Hd.mk (rpl_eq hX HD.out.1)
    rw [show erV 0 = Value.nilIface from rfl]
    clear hX hpo hlo hw1 hwb
    go_wp2_with fail
    refine (olens_calls HS5.out).mono ?_
    rintro e w6 ⟨rfl, hb6⟩
    rw [HW1.out, HW2.out]
    have HC6 := Hd.mk (bstep HC5.out hb6)
    have HS6 := Hd.mk (HS5.out.below hb6)
    have HB6 := Hd.mk (bstep HB5.out hb6)
    clear hb6
    by_cases hbig : 2000 < comes o
    · have HE2 := Hd.mk (HE1.out.trans (if_pos hbig))
      clear hw2
      go_wp2_with fail
      go_ret
      rw [HE2.out]
      exact CliP.same HL.out HB6.out
    · have HE2 := Hd.mk (HE1.out.trans (if_neg hbig))
      have HCB : Hd ((cnt t.runes).b = (bl C.doc : Int)) := ⟨by rw [HRT.out]; exact of_one_bl C.doc⟩
      have HBR : Hd (bl (rap X C.doc) ≤ 2000) := ⟨by omega⟩
      clear hw2
      go_wp2_with (go_at_call 75; refine (counts_calls (HAT.out.below HC6.out)).mono ?_; rintro e w7 ⟨rfl, hb7⟩; rw [Cn.v_eq, HCB.out]; have HB7 := Hd.mk (bstep HB6.out hb7); have HS7 := Hd.mk (HS6.out.below hb7); clear hb7; obtain ⟨z0, z1, z2, z3, z4, z5, z6, z7, z8, z9⟩ := (HL.out.below HB7.out).cells)
      refine (shap_new (HL.out.below HB7.out).sh.shs (HG.out.1.below HB7.out) (HX.out.sl.below HB7.out) (by have := HPL.out; omega) (by omega)).mono ?_
      rintro e w8 ⟨ho8, h8⟩
      have hfin : e = .returned .nilIface ∧ ShF w7.heap.size w8 f C.unit (rpl o C.doc) := by
        rcases h8 with ⟨k, hk, -, -, hu⟩ | ⟨O, X', hO, -, -, hu, -, hh⟩
        · exact absurd (hu _ _ HT5.out).symm hk
        · obtain ⟨e1, -⟩ := hu _ _ HT5.out
          subst e1
          have e2 : rap X' C.doc = rpl o C.doc := (rpl_eq hO HD.out.1).symm
          rw [e2, HRPL.out] at hh
          rcases hh with ⟨h8, -⟩ | ⟨-, he, hs⟩
          · exact absurd HBR.out (by omega)
          · rw [HRPL.out]; exact ⟨he, hs⟩
      obtain ⟨rfl, hs8⟩ := hfin
      have HO8 : Hd (Only (fun k => k = f) w w8) := ⟨(Only.of_below HB7.out).trans ho8⟩
      have HN8 := Hd.mk ho8
      have HF8 : Hd (∃ B, w.heap.size ≤ B ∧ ShF B w8 f C.unit (rpl o C.doc)) := ⟨_, HB7.out.size, hs8⟩
      have HOO : Hd (OpO F w8 (.slice A5 o.length c5) o) := ⟨OpO.fresh HL.out.flt HB3.out.size HS7.out HF5.out ho8 (HL.out.sub _ (.inr rfl))⟩
      have HWO : Hd (OpO F w8 (.slice Aw C.way.length cw) C.way) := ⟨HL.out.way.still HO8.out (HL.out.sub _ (.inr rfl))⟩
      have HTO : Hd (OpO F w8 (.slice At C.waits.length ct) C.waits) := ⟨HL.out.wts.still HO8.out (HL.out.sub _ (.inr rfl))⟩
      clear ho8 h8 hs8 z0 z1 z2 z3 z4 z5 z6 z7 z8 z9 fz lt
      have hb8 : Blk w8 a 139 (CP.cells ⟨a, f, .slice Aw C.way.length cw, .slice At C.waits.length ct⟩ C) := HL.out.blk.only HO8.out HL.out.ne
      have HBK := Hd.mk hb8
      obtain ⟨z0, z1, z2, z3, z4, z5, z6, z7, z8, z9⟩ := ten_cells hb8
      have fz := hb8.frozen
      have lt := hb8.lt
      have hid := HK.out.id1
      clear hb8
      dsimp only at z0 z1 z2 z3 z4 z5 z6 z7 z8 z9 fz lt
      cases hh : C.has
      · rw [hh] at z7
        have HH := Hd.mk hh
        have hi1 : -1 ≤ C.id ∧ C.id ≤ 1000000 := by split at hid <;> omega
        clear hh hid
        go_wp2_with fail
        go_ret
        have hE := HE2.out
        have hm := (HK.out.no HH.out).1
        rw [HH.out, hm] at hE
        simp only [Bool.false_eq_true, if_false] at hE
        rw [hE]
        have hn := ((HBK.out.set_ 4 (.int .i64 (C.id + 1))).set_ 5 (.slice A5 o.length c5)).set_ 7 (.bool true)
        unfold CP.cells at hn
        rw [hm] at hn
        exact CliP.gen HL.out HO8.out HF8.out rfl HOO.out HTO.out ((((Only.refl (fun k => k = a) w8).setCell (p := ⟨a, 4, none⟩) (.inl rfl) _).setCell (p := ⟨a, 5, none⟩) (.inl rfl) _).setCell (p := ⟨a, 7, none⟩) (.inl rfl) _) hn
      · cases hm : C.more
        · rw [hh] at z7
          rw [hm] at z8
          have HH := Hd.mk (And.intro hh hm)
          clear hh hm hid
          go_wp2_with fail
          go_ret
          have hE := HE2.out
          rw [HH.out.1, HH.out.2] at hE
          simp only [Bool.false_eq_true, if_false, if_true] at hE
          rw [hE]
          have hn := (HBK.out.set_ 6 (.slice A5 o.length c5)).set_ 8 (.bool true)
          unfold CP.cells at hn
          rw [HH.out.1] at hn
          exact CliP.gen HL.out HO8.out HF8.out rfl HWO.out HOO.out (((Only.refl (fun k => k = a) w8).setCell (p := ⟨a, 6, none⟩) (.inl rfl) _).setCell (p := ⟨a, 8, none⟩) (.inl rfl) _) hn
        · rw [hh] at z7
          rw [hm] at z8
          have HH := Hd.mk (And.intro hh hm)
          obtain ⟨X1, hX1, hp1, -, hy1⟩ := HK.out.yes hh
          obtain ⟨Y1, hY1, hq1, hd1⟩ := hy1 hm
          have hXo := HX1.out.1
          rw [hd1] at hXo
          have HCM := Hd.mk (comp_ok (w := w8) (va := .slice At C.waits.length ct) (vb := .slice A5 o.length c5) (HG.out.only (HO8.out.mono (fun k _ e => by subst e; exact HL.out.sub _ (.inr rfl))) (Grow.refl _ _)).1 HTO.out.sl HOO.out.sl hY1 hXo (by have := hX1.bounds; have := HK.out.sz; omega) (by omega) (by have := plen_comes HX1.out.1.args; omega))
          clear hh hm hid hX1 hp1 hy1 hY1 hq1 hd1 hXo
          go_wp2_with fail
          refine HCM.out.mono ?_
          rintro e w9 ⟨hb9, v9, rfl, hs9, hf9⟩
          have HS9 := Hd.mk hs9
          have HF9 := Hd.mk hf9
          have HB9 := Hd.mk hb9
          obtain ⟨A9, c9, rfl, -⟩ := hs9
          have hb8 := HBK.out.below hb9 HBK.out.lt
          have HBK9 := Hd.mk hb8
          clear z0 z1 z2 z3 z4 z5 z6 z7 z8 z9 fz lt hb9 hf9
          obtain ⟨z0, z1, z2, z3, z4, z5, z6, z7, z8, z9⟩ := ten_cells hb8
          have fz := hb8.frozen
          have lt := hb8.lt
          clear hb8
          dsimp only at z0 z1 z2 z3 z4 z5 z6 z7 z8 z9 fz lt
          go_wp2_with fail
          go_ret
          have hE := HE2.out
          rw [HH.out.1, HH.out.2] at hE
          simp only [if_true] at hE
          rw [hE]
          have hn := HBK9.out.set_ 6 (.slice A9 (cml C.waits o).length c9)
          unfold CP.cells at hn
          rw [HH.out.1, HH.out.2] at hn
          have hfl : ∀ j, F j → j < w8.heap.size := fun j hj => Nat.lt_of_lt_of_le (HL.out.flt j hj) HO8.out.size
          exact CliP.gen HL.out (HO8.out.then_below HB9.out) (by obtain ⟨B, h1, h2⟩ := HF8.out; exact ⟨B, h1, h2.below HB9.out⟩) rfl (HWO.out.below HB9.out (Grow.refl _ _)) (OpO.frs HS9.out HF9.out hfl) ((Only.refl (fun k => k = a) w9).setCell (p := ⟨a, 6, none⟩) (.inl rfl) _) hn
  · have HE : Hd (C.edit l = (k, C)) := ⟨by unfold CV.edit; rw [if_neg HE0.out, ← HO.out.2, if_pos hk0]⟩
    rw [erV_errno hk0]
    unfold errno
    have HK0 := Hd.mk hk0
    clear hk0
    go_wp2_with fail
    go_ret
    rw [HE.out]
    have he : errOf k = errno k := if_neg HK0.out
    rw [he]
    exact CliP.same HL.out HB5.out
end
end Go.Proofs.YtdgdajnbkfmijaaGreatDoor
/- A server's Take and New. -/
namespace Go.Proofs.YtdgdajnbkfmijaaGreatDoor
open Go.RowKit Go.Sort
set_option maxRecDepth 100000
theorem SV.does_last (S : SV) (who id rev : Int) (op : List PT) : (S.does who id rev op).2.last = S.last ∧ (S.does who id rev op).2.tk = S.tk := by
  unfold SV.does
  repeat' split
  all_goals exact ⟨rfl, rfl⟩
/-- What was answered is kept. -/
theorem SrvR.stored {w w3 w4 : World} {F : Nat → Prop} {s : SP} {S : SV} {M : Int → Option (Int × Int)} (h : SrvR w F s S) (hb : Below w.heap.size w w3) (hm : Mp w4 s.m (s.k + 1) M) (ho : Only (fun k => k = s.m) w3 w4) :
    SrvR w4 F { s with k := s.k + 1 } { S with last := M, tk := S.tk + 1 } := by
  have h3 := h.below hb
  obtain ⟨ap1, ap2⟩ := h3.apart
  have hns : ∀ j, j = s.m → F j := fun j e => h.sub j (.inr (.inr e))
  refine ⟨⟨h3.ok.len, h3.ok.txt, h3.ok.step⟩, h3.blk.only ho ap2, h3.rope.only ho (fun e => h3.rp.1 (hns _ e)) (fun b hb e => h3.rp.2 b hb (hns _ e)), h3.good, h3.doc, h3.rp, own_only h3.own ho (fun k hk => (ap1 k hk).2), h3.log,
    h3.ops.only (ho.mono (fun k _ => hns k)) (Grow.refl _ _), hm, by have := h3.tk; dsimp only; omega, h3.sub, fun j hj => Nat.lt_of_lt_of_le (h3.flt j hj) ho.size⟩
/-- What Take leaves, where an operation is new. -/
theorem DoesP.fresh {w w1 w2 w3 w4 : World} {F : Nat → Prop} {s s' : SP} {S : SV} {who id rev : Int} {op : List PT} {c : Int} {e : Ending} (hb1 : Below w.heap.size w w1) (ha : s'.a = s.a) (hm : s'.m = s.m) (ho : Only s.F w1 w2) (hg : Grow s.F s'.F w1.heap.size)
    (hS : ∀ F', (∀ j, F' j → F j ∨ s'.F j) → (∀ j, s'.F j → F' j) → SrvR w2 F' s' (S.does who id rev op).2) (hb3 : Below w2.heap.size w2 w3) (hm4 : Mp w4 s'.m (s'.k + 1) (mput (S.does who id rev op).2.last who (id, c))) (ho4 : Only (fun k => k = s'.m) w3 w4)
    (hc : c = (S.does who id rev op).1) (he : e = .returned (errOf c)) (hsm : s.F s.m) : DoesP F s (S.fresh who id rev op) w e w4 := by
  obtain ⟨l1, l2⟩ := S.does_last who id rev op
  refine ⟨{ s' with k := s'.k + 1 }, ha, hm, (((Only.of_below hb1).trans ho).trans (Only.of_below hb3)).trans (ho4.mono (fun k _ e => by rw [e, hm]; exact hsm)), hg.mono hb1.size, ?_, fun F' k1 k2 => ?_⟩
  · rw [he, hc]; rfl
  · have := (hS F' k1 k2).stored hb3 hm4 ho4
    unfold SV.fresh
    rw [l1] at this
    rw [l2] at this
    rw [hc] at this
    exact this
set_option maxHeartbeats 8000000 in
theorem stake_calls {w : World} {F : Nat → Prop} {s : SP} {S : SV} {who id rev : Int} {op : List PT} {v : Value} (h : SrvR w F s S) (hg : HdlO F w) (hN : S.log.length ≤ 1000) (hT : S.tk ≤ 1000000000) (hwho : (Lit.int .i64 who).wf = true) (hxo : OpO F w v op) (hp : plen op ≤ 100000) (hn : op.length ≤ 200000) :
    Calls Tryz.prog 12 #[.pointer (some ⟨s.a, 0, none⟩), .int .i64 who, .int .i64 id, .int .i64 rev, v] w (DoesP F s (S.take who id rev op) w) := by
  obtain ⟨z0, z1, z2⟩ := three_cells h.blk
  have HL := Hd.mk h
  have HG := Hd.mk hg
  have HX := Hd.mk hxo
  have HW := Hd.mk hwho
  have HP := Hd.mk hp
  have HM := Hd.mk h.map
  have HTK := Hd.mk hT
  obtain ⟨⟨Ax, cx, rfl, -⟩, -⟩ := hxo
  clear h hg hwho hp z0 z1 hT
  obtain ⟨o, ho⟩ : ∃ o, o = S.last who := ⟨_, rfl⟩
  cases o with
  | none =>
    have HT : Hd (S.take who id rev op = S.fresh who id rev op) := ⟨by unfold SV.take; rw [← ho]⟩
    have HO := Hd.mk ho
    clear ho
    go_enter Tryz.func12, Tryz.ntmps12
    go_upto_region 9 with (first
      | (at_lookup; refine wp_look_ok rfl rfl Tryz.underlying104 (zero_last _) rfl rfl HW.out HM.out ?_; rw [← HO.out]; unfold prV)
      | (go_at_call 52; refine (sdoes_calls (HL.out.below (ex_alloc (Below.refl _ _) _)) (HG.out.below (ex_alloc (Below.refl _ _) _) (Grow.refl _ _)) hN (HX.out.below (ex_alloc (Below.refl _ _) _) (Grow.refl _ _)) HP.out hn).mono ?_; rintro e w2 hd; obtain ⟨s', ha, hm, ho2, hgr, rfl, hS⟩ := hd))
    have HS := Hd.mk hS
    have HS1 := Hd.mk (hS (fun j => F j ∨ s'.F j) (fun _ e => e) (fun _ e => .inr e))
    have HA := Hd.mk ha
    have HMM := Hd.mk hm
    have HO2 := Hd.mk ho2
    have HGR := Hd.mk hgr
    have HG2 : Hd (Hdl w2) := ⟨((HG.out.below (ex_alloc (Below.refl _ _) _) (Grow.refl _ _)).only (F' := F) (ho2.mono (fun k _ e => HL.out.sub k e)) (Grow.refl _ _)).1⟩
    obtain ⟨c, hc⟩ : ∃ c, c = (S.does who id rev op).1 := ⟨_, rfl⟩
    rw [← hc]
    have HC := Hd.mk hc
    have hblk := HS1.out.blk
    rw [ha] at hblk
    obtain ⟨x0, x1, x2⟩ := three_cells hblk
    have xl := hblk.lt
    have HTKb : Hd (s'.k < maxLen) := ⟨by have h1 := HS1.out.tk; have h2 := (S.does_last who id rev op).2; have h3 := HTK.out; unfold maxLen; omega⟩
    clear hS ha hm ho2 hgr hc hblk x0 x1 z2
    go_region_with (go_at_call 53; refine (tell_calls (errV_of _ _) (HG2.out.below (ex_drew (Below.refl _ _)))).mono ?_; rintro e w3 ⟨rfl, hb3⟩; have HB3 := Hd.mk ((ex_drew (Below.refl _ _)).trans hb3 : Below w2.heap.size w2 w3); obtain ⟨w4, hrun, hM4, hO4, hz4⟩ := (HS1.out.map.below HB3.out).store (a := id) (c := c) Tryz.underlying104 HTKb.out HW.out; have y2 := HB3.out.cell (p := ⟨s.a, 2, none⟩) xl; rw [x2] at y2; have HM4 := Hd.mk hM4; have HO4 := Hd.mk hO4; clear hb3 hM4 hO4)
    all_goals
      go_wp2_with fail
      go_ret
      rw [HT.out]
      exact DoesP.fresh (ex_alloc (Below.refl _ _) _) HA.out HMM.out HO2.out HGR.out HS.out HB3.out HM4.out HO4.out HC.out rfl (.inr (.inr rfl))
  | some p =>
    obtain ⟨i, k⟩ := p
    by_cases h1 : id < i
    · have HT : Hd (S.take who id rev op = (8, S)) := ⟨by unfold SV.take; rw [← ho]; dsimp only; rw [if_pos h1]⟩
      have h1b : id ≤ i := by omega
      have HO := Hd.mk ho
      clear ho
      go_enter Tryz.func12, Tryz.ntmps12
      go_wp2_with (at_lookup; refine wp_look_ok rfl rfl Tryz.underlying104 (zero_last _) rfl rfl HW.out HM.out ?_; rw [← HO.out]; unfold prV)
      go_ret
      rw [HT.out]
      exact DoesP.same HL.out (ex_alloc (Below.refl _ _) _) rfl
    by_cases h2 : id = i
    · subst h2
      have HT : Hd (S.take who id rev op = (k, S)) := ⟨by unfold SV.take; rw [← ho]; dsimp only; rw [if_neg h1, if_pos rfl]⟩
      have HO := Hd.mk ho
      clear ho
      by_cases hk : k = 0
      · subst hk
        go_enter Tryz.func12, Tryz.ntmps12
        go_wp2_with (at_lookup; refine wp_look_ok rfl rfl Tryz.underlying104 (zero_last _) rfl rfl HW.out HM.out ?_; rw [← HO.out]; unfold prV)
        go_ret
        rw [HT.out]
        exact DoesP.same HL.out (ex_alloc (Below.refl _ _) _) rfl
      · have hkb : (k == 0) = false := by rw [beq_eq_false_iff_ne]; exact hk
        have HK := Hd.mk hk
        clear hk
        go_enter Tryz.func12, Tryz.ntmps12
        go_wp2_with (at_lookup; refine wp_look_ok rfl rfl Tryz.underlying104 (zero_last _) rfl rfl HW.out HM.out ?_; rw [← HO.out]; unfold prV)
        go_ret
        rw [HT.out]
        exact DoesP.same HL.out (ex_alloc (Below.refl _ _) _) (congrArg Ending.returned (errOf_ne HK.out).symm)
    · have HT : Hd (S.take who id rev op = S.fresh who id rev op) := ⟨by unfold SV.take; rw [← ho]; dsimp only; rw [if_neg h1, if_neg h2]⟩
      have h3 : ¬ id ≤ i := by omega
      have HO := Hd.mk ho
      clear ho h1 h2
      go_enter Tryz.func12, Tryz.ntmps12
      go_upto_region 9 with (first
        | (at_lookup; refine wp_look_ok rfl rfl Tryz.underlying104 (zero_last _) rfl rfl HW.out HM.out ?_; rw [← HO.out]; unfold prV)
        | (go_at_call 52; refine (sdoes_calls (HL.out.below (ex_alloc (Below.refl _ _) _)) (HG.out.below (ex_alloc (Below.refl _ _) _) (Grow.refl _ _)) hN (HX.out.below (ex_alloc (Below.refl _ _) _) (Grow.refl _ _)) HP.out hn).mono ?_; rintro e w2 hd; obtain ⟨s', ha, hm, ho2, hgr, rfl, hS⟩ := hd))
      have HS := Hd.mk hS
      have HS1 := Hd.mk (hS (fun j => F j ∨ s'.F j) (fun _ e => e) (fun _ e => .inr e))
      have HA := Hd.mk ha
      have HMM := Hd.mk hm
      have HO2 := Hd.mk ho2
      have HGR := Hd.mk hgr
      have HG2 : Hd (Hdl w2) := ⟨((HG.out.below (ex_alloc (Below.refl _ _) _) (Grow.refl _ _)).only (F' := F) (ho2.mono (fun k _ e => HL.out.sub k e)) (Grow.refl _ _)).1⟩
      obtain ⟨c, hc⟩ : ∃ c, c = (S.does who id rev op).1 := ⟨_, rfl⟩
      rw [← hc]
      have HC := Hd.mk hc
      have hblk := HS1.out.blk
      rw [ha] at hblk
      obtain ⟨x0, x1, x2⟩ := three_cells hblk
      have xl := hblk.lt
      have HTKb : Hd (s'.k < maxLen) := ⟨by have h1 := HS1.out.tk; have h2 := (S.does_last who id rev op).2; have h3 := HTK.out; unfold maxLen; omega⟩
      clear hS ha hm ho2 hgr hc hblk x0 x1 z2
      go_region_with (go_at_call 53; refine (tell_calls (errV_of _ _) (HG2.out.below (ex_drew (Below.refl _ _)))).mono ?_; rintro e w3 ⟨rfl, hb3⟩; have HB3 := Hd.mk ((ex_drew (Below.refl _ _)).trans hb3 : Below w2.heap.size w2 w3); obtain ⟨w4, hrun, hM4, hO4, hz4⟩ := (HS1.out.map.below HB3.out).store (a := id) (c := c) Tryz.underlying104 HTKb.out HW.out; have y2 := HB3.out.cell (p := ⟨s.a, 2, none⟩) xl; rw [x2] at y2; have HM4 := Hd.mk hM4; have HO4 := Hd.mk hO4; clear hb3 hM4 hO4)
      all_goals
        go_wp2_with fail
        go_ret
        rw [HT.out]
        exact DoesP.fresh (ex_alloc (Below.refl _ _) _) HA.out HMM.out HO2.out HGR.out HS.out HB3.out HM4.out HO4.out HC.out rfl (.inr (.inr rfl))
end Go.Proofs.YtdgdajnbkfmijaaGreatDoor
/- slices.Delete over packets: one is taken out, in place. -/
namespace Go.Proofs.YtdgdajnbkfmijaaGreatDoor
open Go.RowKit Go.Sort
set_option maxRecDepth 100000
theorem Blk.sets {g : Nat} {t : TypeId} : ∀ (vs : List Value) (o : Nat) (w : World) (cs : Array Value), Blk w g t cs → o + vs.length ≤ cs.size →
    ∃ cs', Blk (w.setCells g o vs) g t cs' ∧ cs'.size = cs.size ∧ cs'.toList = cs.toList.take o ++ vs ++ cs.toList.drop (o + vs.length)
  | [], o, w, cs, h, _ => ⟨cs, h, rfl, by simp⟩
  | v :: vs, o, w, cs, h, hl => by
    rw [List.length_cons] at hl
    obtain ⟨cs', h1, h2, h3⟩ := Blk.sets vs (o + 1) (w.setCell ⟨g, o, none⟩ v) _ (h.set_ o v) (by simp; omega)
    refine ⟨cs', h1, by rw [h2]; simp, ?_⟩
    rw [h3, Array.toList_setIfInBounds]
    have hlt : o < cs.toList.length := by simp; omega
    rw [List.length_cons, List.take_succ_eq_append_getElem (by simpa using hlt), List.take_set, List.getElem_set_self, List.drop_set_of_lt (by omega), show o + 1 + vs.length = o + (vs.length + 1) from by omega, List.set_eq_of_length_le (by rw [List.length_take]; exact Nat.min_le_left _ _)]
    simp
theorem Only.sets {g : Nat} : ∀ (vs : List Value) (o : Nat) (w w0 : World), Only (fun j => j = g) w0 w → Only (fun j => j = g) w0 (w.setCells g o vs)
  | [], _, _, _, h => h
  | v :: vs, o, _, _, h => Only.sets vs (o + 1) _ _ (h.setCell (p := ⟨g, o, none⟩) (.inl rfl) v)
/-- clear of one element. -/
theorem run_clear_one {P : Program} (w : World) (t e ty : TypeId) (z : Value) (zs : List Value) (ht : P.underlying t = some (.slice e)) (hv : ∀ w, (zeroValue e).run P w = .ok z w) (hz : (Builtin.zeroCells z.cells 1).toList = zs) (h1 : ∀ v ∈ zs, v.oneCell' = true) (b o c : Nat)
    (hc : ∀ j, j < zs.length → (w.cell? ⟨b, o + j, none⟩).isSome = true) (hf : ∀ j, j < zs.length → w.frozen? ⟨b, o + j, none⟩ = false) :
    (Builtin.clear_ #[t] ty #[.slice (some ⟨b, o, none⟩) 1 c]).run P w = .ok (.tuple #[]) (w.setCells b o zs) := by
  have hst := run_storeCells_cells (P := P) b o zs 0 w (by simpa using hc) (by simpa using hf) h1
  simp only [Nat.add_zero] at hst
  simp [Builtin.clear_, run_underlying ht, hv, hz, hst]
def zPk : Value := .agg #[.int .i64 0, .int .i64 0, .int .i64 0, .int .i64 0, .int .i64 0, .int .i64 0, .slice none 0 0]
theorem zero_pk (w : World) : (zeroValue 158).run Tryz.prog w = .ok zPk w := Tryz.zeroValue158 w
def zPks : List Value := [.int .i64 0, .int .i64 0, .int .i64 0, .int .i64 0, .int .i64 0, .int .i64 0, .slice none 0 0]
theorem zero_pks : (Builtin.zeroCells zPk.cells 1).toList = zPks := by
  have h : zPk.cells = zPks.toArray := by rfl
  rw [h]
  unfold Builtin.zeroCells zPks
  simp [List.range, List.range.loop]
theorem one_z : ∀ v ∈ zPks, v.oneCell' = true := by
  intro v hv
  simp only [zPks, List.mem_cons, List.not_mem_nil, or_false] at hv
  rcases hv with rfl | rfl | rfl | rfl | rfl | rfl | rfl <;> rfl
theorem Blk.have_ {w : World} {g : Nat} {t : TypeId} {cs : Array Value} (h : Blk w g t cs) {i : Nat} (hi : i < cs.size) : (w.cell? ⟨g, i, none⟩).isSome = true := by rw [h.cell, Array.getElem?_eq_getElem hi]; rfl
theorem info_pk : ∃ i, Tryz.prog.info? 158 = some i ∧ i.size = 7 := ⟨_, rfl, rfl⟩
theorem take_sets {α : Type} {L A vs D : List α} {m : Nat} (hl : L = A.take m ++ vs ++ D) (h : m ≤ A.length) : L.take m = A.take m := by
  rw [hl, List.append_assoc, List.take_append_of_le_length (by rw [List.length_take]; omega), List.take_take, Nat.min_self]
theorem take_mid {α : Type} {L cur xs R : List α} {i n : Nat} (hl : L = cur.take (i * 7) ++ xs.drop ((i + 1) * 7) ++ R) (hc : cur.take (n * 7) = xs) (hx : xs.length = n * 7) (hi : i < n) : L.take ((n - 1) * 7) = xs.take (i * 7) ++ xs.drop ((i + 1) * 7) := by
  have hcl : n * 7 ≤ cur.length := by rw [← hx, ← hc, List.length_take]; omega
  have e1 : (cur.take (i * 7)).length = i * 7 := by rw [List.length_take]; omega
  have e2 : xs.take (i * 7) = cur.take (i * 7) := by rw [← hc, List.take_take]; congr 1; omega
  have e3 : (xs.drop ((i + 1) * 7)).length = (n - 1 - i) * 7 := by rw [List.length_drop, hx]; omega
  have e4 : (cur.take (i * 7) ++ xs.drop ((i + 1) * 7)).length = (n - 1) * 7 := by rw [List.length_append, e1, e3]; omega
  rw [hl, e2, List.take_append_of_le_length (by omega), List.take_of_length_le (by omega)]
def DelPost (w : World) (g n cap i : Nat) (xs : List Value) (e : Ending) (w' : World) : Prop :=
  e = .returned (.slice (some ⟨g, 0, none⟩) (n - 1) cap) ∧ w'.ownsRow 0 158 7 (.slice (some ⟨g, 0, none⟩) (n - 1) cap) (n - 1) (xs.take (i * 7) ++ xs.drop ((i + 1) * 7)) ∧ Only (fun j => j = g) w w'
set_option maxHeartbeats 4000000 in
theorem delete_calls {w : World} {g n cap i : Nat} {xs : List Value} (hown : w.ownsRow 0 158 7 (.slice (some ⟨g, 0, none⟩) n cap) n xs) (h1 : ∀ u ∈ xs, u.oneCell' = true) (hi : i < n) :
    Calls Tryz.prog 86 #[.slice (some ⟨g, 0, none⟩) n cap, .int .i64 i, .int .i64 ((i : Int) + 1)] w (DelPost w g n cap i xs) := by
  obtain ⟨hxl, h | ⟨g', cap', cur, hv, -, hb, hnc, hcm, hcs, hcur⟩⟩ := hown
  · exact absurd h.1 (by simp)
  cases hv
  obtain ⟨i0, hi0, hz1⟩ := info_pk
  have hB : Blk w g 158 cur := hb
  obtain ⟨news, hnews⟩ : ∃ news, news = xs.drop ((i + 1) * 7) := ⟨_, rfl⟩
  have hlen : news.length = (n - (i + 1)) * 7 := by rw [hnews, List.length_drop, hxl]; omega
  have hBd : Blk w.drew g 158 cur := hb
  have hxget : ∀ t u, xs[t]? = some u → w.drew.cell? ⟨g, t, none⟩ = some u := fun t u hu => by
    rw [hBd.cell, ← Array.getElem?_toList]
    have ht := (List.getElem?_eq_some_iff.1 hu).1
    rw [← hcur, List.getElem?_take_of_lt (by omega)] at hu
    exact hu
  obtain ⟨A, hA, hsrc⟩ : ∃ A : Addr, (if cap = i + 1 then some (⟨g, 0, none⟩ : Addr) else some ⟨g, (i + 1) * 7, none⟩) = some A ∧ Hd (∀ t u, news[t]? = some u → w.drew.cell? (A.add t) = some u) := by
    by_cases h : cap = i + 1
    · refine ⟨⟨g, 0, none⟩, by simp [h], ⟨fun t u hu => ?_⟩⟩
      have h0 : news.length = 0 := by rw [hlen]; omega
      rw [List.length_eq_zero_iff.1 h0] at hu
      simp at hu
    · refine ⟨⟨g, (i + 1) * 7, none⟩, by simp [h], ⟨fun t u hu => ?_⟩⟩
      rw [add_mk]
      rw [hnews, List.getElem?_drop] at hu
      exact hxget _ u hu
  have S1 := Hd.mk hlen
  have S2 : Hd (∀ u ∈ news, u.oneCell' = true) := ⟨fun u hu => h1 u (by rw [hnews] at hu; exact List.mem_of_mem_drop hu)⟩
  have S3 : Hd (∀ t, t < news.length → (w.drew.cell? ⟨g, 0 + i * 7 + t, none⟩).isSome = true ∧ w.drew.frozen? ⟨g, 0 + i * 7 + t, none⟩ = false) := ⟨fun t ht => ⟨hBd.have_ (by omega), hBd.frozen _⟩⟩
  obtain ⟨W1, hW1⟩ : ∃ W1, W1 = w.drew.setCells g (0 + i * 7) news := ⟨_, rfl⟩
  obtain ⟨cs1, hB1, hz1', hc1⟩ := Blk.sets news (0 + i * 7) w.drew cur hBd (by rw [hlen]; omega)
  rw [← hW1] at hB1
  have em : i + (n - (i + 1)) = n - 1 := by omega
  have hcl : ∀ ty, (Builtin.clear_ #[130] ty #[.slice (some ⟨g, (i + (n - (i + 1))) * 7, none⟩) (n - (i + (n - (i + 1)))) (cap - (i + (n - (i + 1))))]).run Tryz.prog W1 = .ok (.tuple #[]) (W1.setCells g ((i + (n - (i + 1))) * 7) zPks) := fun ty => by
    rw [em, show n - (n - 1) = 1 from by omega]
    exact run_clear_one W1 _ _ ty zPk zPks Tryz.underlying130 zero_pk zero_pks one_z g _ _ (fun j hj => hB1.have_ (by have : j < 7 := hj; omega)) (fun j hj => hB1.frozen _)
  have HW1 := Hd.mk hW1
  have HFIN : Hd ((W1.setCells g ((n - 1) * 7) zPks).ownsRow 0 158 7 (.slice (some ⟨g, 0, none⟩) (n - 1) cap) (n - 1) (xs.take (i * 7) ++ xs.drop ((i + 1) * 7)) ∧ Only (fun j => j = g) w (W1.setCells g ((n - 1) * 7) zPks)) := ⟨by
    obtain ⟨cs2, hB2, hz2, hc2⟩ := Blk.sets zPks ((n - 1) * 7) W1 cs1 hB1 (by show (n - 1) * 7 + 7 ≤ _; omega)
    have ho1 : Only (fun j => j = g) w W1 := by rw [hW1]; exact Only.sets news (0 + i * 7) w.drew w (Only.refl _ w).drew
    have hO2 := Only.sets zPks ((n - 1) * 7) W1 w ho1
    have hz7 : cs2.size = cap * 7 := by omega
    refine ⟨⟨?_, Or.inr ⟨g, cap, cs2, rfl, Nat.zero_le _, hB2, by omega, hcm, hz7, ?_⟩⟩, hO2⟩
    · have e3 : (xs.drop ((i + 1) * 7)).length = (n - 1 - i) * 7 := by rw [List.length_drop, hxl]; omega
      have e4 : (xs.take (i * 7)).length = i * 7 := by rw [List.length_take, hxl]; omega
      rw [List.length_append, e3, e4]; omega
    · rw [take_sets hc2 (by rw [Array.length_toList]; omega)]
      rw [Nat.zero_add, hnews] at hc1
      exact take_mid hc1 hcur hxl hi⟩
  have hic : i ≤ cap := by omega
  have hj0 : 0 ≤ (i : Int) + 1 := by omega
  have hj1 : (i : Int) + 1 ≤ (n : Int) := by omega
  have EM := Hd.mk em
  clear em hW1 hB1 hz1' hc1 hnews hlen hxget hBd hB hb hcur hcs hxl h1
  go_enter Tryz.func86, Tryz.ntmps86
  go_wp2_with fail
  go_region_law (refine step_append_room rfl (.tmp 22) (.tmp 25) 130 rfl 158 i0 7 Tryz.underlying130 hi0 hz1 g 0 i cap (by simp [Act.eval, Act.put]) A (n - (i + 1)) (cap - (i + 1)) news (by simp [Act.eval, Act.put]) S1.out hsrc.out S2.out (by omega) S3.out ?_; rw [← HW1.out])
  go_wp2
  go_ret
  rw [EM.out]
  exact ⟨rfl, HFIN.out⟩
end Go.Proofs.YtdgdajnbkfmijaaGreatDoor
/- A client's Take and Refused, whatever comes. -/
namespace Go.Proofs.YtdgdajnbkfmijaaGreatDoor
open Go.RowKit Go.Sort
set_option maxRecDepth 100000
theorem ctake_any {w : World} {F : Nat → Prop} {c : CP} {C : CV} {e : EN} {v : Value} {T rev : Int} (h : CliR w F c C) (hg : HdlO F w) (hk : COk T C) (hT : T ≤ 1000000) (hrv : C.rev ≤ 100000) (hx : OpO F w v e.op) (hf : rev = C.rev → ∃ Z, Fit_ C e Z) :
    Calls Tryz.prog 131 #[.pointer (some ⟨c.a, 0, none⟩), .int .i64 rev, .agg #[.int .i64 e.who, .int .i64 e.id, v]] w (CliP F c .nilIface (C.take rev e) w) := by
  by_cases hr : rev = C.rev
  · subst hr
    obtain ⟨Z, hZ⟩ := hf rfl
    by_cases ho : C.isOwn e
    · have e1 : C.take C.rev e = C.own e := by unfold CV.take; rw [if_neg (fun h => h rfl), if_pos ho]
      rw [e1]
      exact ctake_own h hg hk hT hrv hx hZ ho
    · have e1 : C.take C.rev e = C.other e := by unfold CV.take; rw [if_neg (fun h => h rfl), if_neg ho]
      rw [e1]
      exact ctake_other h hg hk hrv hx hZ ho
  · have e1 : C.take rev e = C := by unfold CV.take; rw [if_pos hr]
    rw [e1]
    exact ctake_skip h hr
theorem crefused_any {w : World} {F : Nat → Prop} {c : CP} {C : CV} {T id : Int} (h : CliR w F c C) (hk : COk T C) (hT : T ≤ 1000000) :
    Calls Tryz.prog 132 #[.pointer (some ⟨c.a, 0, none⟩), .int .i64 id] w (CliP F c (.tuple #[]) (C.refused id) w) := by
  by_cases hr : C.has = true ∧ id = C.id
  · obtain ⟨h1, rfl⟩ := hr
    exact crefused_calls h hk hT h1
  · have e1 : C.refused id = C := by unfold CV.refused; rw [if_neg hr]
    rw [e1]
    exact crefused_skip h hr
end Go.Proofs.YtdgdajnbkfmijaaGreatDoor
