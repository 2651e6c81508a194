/- The walk of the law ServerPlays. -/
import Derived.Test.YtdgdajnbkfmijaaGreatDoorMServerPlays46
import Derived.Test.YtdgdajnbkfmijaaGreatDoorMServerPlays45
import Derived.Test.YtdgdajnbkfmijaaGreatDoorMServerPlays11
import Derived.Test.YtdgdajnbkfmijaaGreatDoorMServerPlays20
import Derived.Test.YtdgdajnbkfmijaaGreatDoorMServerPlays22
namespace Go.Proofs.YtdgdajnbkfmijaaGreatDoor
open Go.RowKit Go.Sort
set_option maxRecDepth 100000
section
attribute [local go_sem] add_mk
/-- A box of three whole numbers and a value. -/
abbrev BX4 (b : Nat) (x y z v : Value) (w' : World) : Prop := Blk w' b 38 #[x, y, z, v] ∧ w'.cell? ⟨b, 0, none⟩ = some x ∧ w'.cell? ⟨b, 1, none⟩ = some y ∧ w'.cell? ⟨b, 2, none⟩ = some z ∧ w'.cell? ⟨b, 3, none⟩ = some v
theorem BX4.of {b : Nat} {x y z v : Value} {w' : World} (h : Blk w' b 38 #[x, y, z, v]) : BX4 b x y z v w' := ⟨h, (by have z0 := h.cell 0; have z1 := h.cell 1; have z2 := h.cell 2; have z3 := h.cell 3; simp only [List.getElem?_toArray, List.getElem?_cons_zero, List.getElem?_cons_succ] at z0 z1 z2 z3; exact ⟨z0, z1, z2, z3⟩)⟩
/-- An argument's operation lies outside of what is new. -/
theorem OpO.arg {w w3 : World} {F : Nat → Prop} {v : Value} {l : List PT} (h : Sl w 3 v l.length (opv l)) (hb : Below w.heap.size w w3) (hF : ∀ j, F j → w.heap.size ≤ j) : OpO F w3 v l := by
  refine ⟨h.below hb, fun ad n c e hn hf => ?_⟩
  obtain ⟨A, c', e', -, -, -, -, h5⟩ := h
  rw [e'] at e
  cases e
  obtain ⟨ad', e2, hb2, -⟩ := h5 hn
  cases e2
  have := hF _ hf
  omega
theorem plen_mulS {l : List PT} {m : Nat} (h : ∀ p ∈ l, p.put.length ≤ m) : plen l ≤ m * l.length := by
  induction l with
  | nil => simp [plen]
  | cons p l ih =>
    have h1 := h p (by simp)
    have h2 := ih fun q hq => h q (by simp [hq])
    rw [plen, List.length_cons, Nat.mul_succ]
    omega
theorem SV.take_tk (S : SV) (who id rev : Int) (op : List PT) : (S.take who id rev op).2.tk ≤ S.tk + 1 := by
  have hd : (S.does who id rev op).2.tk = S.tk := (S.does_last who id rev op).2
  unfold SV.take SV.fresh
  repeat' split
  all_goals simp [hd]
theorem arr_at0 (a b : Int) (w : World) : (Instr.index 52 (.agg #[.int .i64 a, .int .i64 b]) (.int .i64 0)).run Tryz.prog w = .ok (.int .i64 a) w := by kernel_rfl
theorem arr_at1 (a b : Int) (w : World) : (Instr.index 52 (.agg #[.int .i64 a, .int .i64 b]) (.int .i64 1)).run Tryz.prog w = .ok (.int .i64 b) w := by kernel_rfl
theorem Blk.drew_ {w : World} {g : Nat} {t : TypeId} {cs : Array Value} (h : Blk w g t cs) : Blk w.drew g t cs := h
set_option maxHeartbeats 16000000 in
theorem serverPlays_walk {s : U.Bs} {v : Value} {n : Nat} {L : List SAY} {w : World} (hg : Hdl w) (hsl : Sl w 4 v n (says L)) (hln : L.length = n) (hok : ∀ p ∈ L, p.Ok w) (hsm : s.length ≤ maxLen) :
    Calls Tryz.prog 3 #[.string ⟨s.toArray⟩, v] w fun e w' => e = .returned (.bool true) ∧ Below w.heap.size w w' := by
  have HG := Hd.mk hg
  have HSL := Hd.mk hsl
  have HLN := Hd.mk hln
  have HOK := Hd.mk hok
  obtain ⟨A, cc, rfl, -⟩ := hsl
  unfold maxLen at hsm
  clear hg hln hok
  by_cases h1 : 2100 < s.length
  · have hi : (2100 : Int) < (s.length : Int) := by omega
    go_enter Tryz.func3, Tryz.ntmps3
    go_wp2_with fail
    go_ret
    exact ⟨rfl, Below.refl _ _⟩
  by_cases h2 : 40 < n
  · have hi : ¬ ((2100 : Int) < (s.length : Int)) := by omega
    have hj : (40 : Int) < (n : Int) := by omega
    go_enter Tryz.func3, Tryz.ntmps3
    go_wp2_with fail
    go_ret
    exact ⟨rfl, Below.refl _ _⟩
  have hi : ¬ ((2100 : Int) < (s.length : Int)) := by omega
  have hj : ¬ ((40 : Int) < (n : Int)) := by omega
  have HN40 : Hd (n ≤ 40) := ⟨by omega⟩
  obtain ⟨rs, rest, hsp⟩ := U.sp_exists s
  have HNEW := Hd.mk (snew_calls hsp (by omega) w)
  have HRN := fun W => Hd.mk (rsnew_calls hsp (by omega) W)
  by_cases hr : rest = []
  · subst hr
    obtain rfl : s = U.encs rs := by have := hsp.eq; simpa using this
    by_cases hbl : 2000 < bl rs
    · have HBL := Hd.mk hbl
      clear hsp hbl h1 h2 hsm
      go_enter Tryz.func3, Tryz.ntmps3
      go_wp2_with (first
        | (go_at_call 7; refine HNEW.out.mono ?_; rintro e w1 ⟨hb1, -, h5, -⟩; obtain rfl := h5 rfl HBL.out; have HB1 := Hd.mk hb1; unfold errno; clear hb1 h5)
        | (go_at_call 8; refine (HRN _).out.mono ?_; rintro e w2 ⟨hb2, -, h5, -⟩; obtain rfl := h5 rfl HBL.out; have HB2 := Hd.mk (bstep HB1.out hb2); clear hb2 h5)
        | (go_at_call 9; refine (is_true (.no 12) (HG.out.below (ex_alloc HB2.out _))).mono ?_; rintro e w3 ⟨rfl, hb3⟩; have HB3 := Hd.mk (bstep (ex_alloc HB2.out _) hb3); clear hb3))
      go_ret
      exact ⟨rfl, HB3.out⟩
    · have HBL : Hd (bl rs ≤ 2000) := ⟨by omega⟩
      clear hsp hbl h1 h2 hsm
      go_enter Tryz.func3, Tryz.ntmps3
      go_wp2_with (first
        | (go_at_call 7; refine HNEW.out.mono ?_; rintro e w1 ⟨hb1, -, -, h5⟩; obtain ⟨s0, rfl, hs0, hs1, hs2⟩ := h5 rfl HBL.out; have HB1 := Hd.mk hb1; have HS0 := Hd.mk (And.intro hs0 (And.intro hs1 hs2)); clear hb1 h5 hs0 hs1 hs2)
        | (go_at_call 8; refine (HRN _).out.mono ?_; rintro e w2 ⟨hb2, -, -, h5⟩; obtain ⟨r0, rfl, hr0, hr1⟩ := h5 rfl HBL.out; have HSP := Hd.mk ((SPr.start HG.out HB1.out HS0.out.2.2 HS0.out.1 hb2 hr1 hr0 HS0.out.2.1).below (ex_alloc (Below.refl _ _) (.cells #[.int .i64 0, .int .i64 (-1)] 31))); clear hb2 h5 hr0 hr1))
      go_loopw [9] (fun i wr => ∃ (k : Nat) (S : SV) (s : SP) (r : RSP) (F : Nat → Prop), k ≤ n ∧ i = .int .i64 k ∧ SPr w wr s0.a r0.a k S s r F) (fun i _ => n - (intOf i).toNat)
      case atStart => exact ⟨0, _, _, _, _, by omega, rfl, HSP.out⟩
      case round =>
        obtain ⟨k, S, s, r, F, hk, rfl, hsp⟩ := hrel
        have HSQ := Hd.mk hsp
        have hkb : k ≤ 40 := by have := HN40.out; omega
        clear HSP HNEW HRN HB1
        by_cases hkn : k < n
        · have hkl : k < L.length := by rw [HLN.out]; exact hkn
          obtain ⟨b, o, c', hv, hbw, c0, c1, c2, c3⟩ := (HSL.out.below hsp.bel).say hkn hkl
          cases hv
          have hp := HOK.out _ (List.getElem_mem hkl)
          generalize L[k] = p at *
          obtain ⟨px, py, pz, pv, q⟩ := p
          have HPX : Hd ((Lit.int .i64 px).wf = true) := ⟨hp.x⟩
          have hpz := wf_i64 hp.z
          have HPZ := Hd.mk hpz
          have hso := hp.op
          have HIN := Hd.mk hp.parts
          dsimp only at hso HIN c0 c1 c2 c3 hpz
          have HSO := Hd.mk hso
          obtain ⟨Aq, cq, rfl, -⟩ := hso
          have hbwr : b < wr.heap.size := hbw
          clear hp hsp hkl hpz
          have HXB := Hd.mk (Blk.new wr 38 #[.int .i64 px, .int .i64 py, .int .i64 pz, .slice Aq q.length cq])
          have HSW := Hd.mk ((HSO.out.below HSQ.out.bel).below (ex_alloc (Below.refl _ _) (.cells #[.int .i64 px, .int .i64 py, .int .i64 pz, .slice Aq q.length cq] 38)))
          by_cases hbig : 100 < q.length
          · go_wp2_with (go_at_call 10; refine (few_big HSW.out hbig).mono ?_; rintro e w3 ⟨rfl, rfl⟩)
            go_ret
            exact ⟨rfl, ex_alloc HSQ.out.bel _⟩
          have HQ100 : Hd (q.length ≤ 100) := ⟨by omega⟩
          clear hbig
          have HFW := Hd.mk (few_calls HSW.out HQ100.out (fun p hp => (HIN.out p hp).s))
          by_cases hid : py < 1
          · go_wp2_with (go_at_call 10; refine HFW.out.mono ?_; rintro e w3 ⟨hfe, hb3⟩; have hbx := HXB.out.below hb3 HXB.out.lt; obtain ⟨-, q0, q1, q2, q3⟩ := BX4.of hbx; have ql := hbx.lt; have HB3 := Hd.mk (bstep (ex_alloc HSQ.out.bel _) hb3); clear hb3 hbx; rcases hfe with ⟨-, rfl⟩ | ⟨-, rfl⟩)
            all_goals
              go_ret
              exact ⟨rfl, HB3.out⟩
          go_wp2_with fail
          refine HFW.out.mono ?_
          rintro e w3 ⟨hfe, hb3⟩
          have HBX3 := Hd.mk (HXB.out.below hb3 HXB.out.lt)
          have HS3 := Hd.mk (HSQ.out.below ((ex_alloc (Below.refl _ _) _).trans (hb3.mono (by simp)) : Below wr.heap.size wr w3))
          have HZ3 : Hd (wr.heap.size < w3.heap.size) := ⟨by have := hb3.size; simp at this; omega⟩
          obtain ⟨-, q0, q1, q2, q3⟩ := BX4.of HBX3.out
          have ql := HBX3.out.lt
          clear hb3
          rcases hfe with ⟨hfew, rfl⟩ | ⟨-, rfl⟩
          · have HOO := Hd.mk (OpO.arg HSO.out HS3.out.bel HS3.out.new)
            have HPL : Hd (plen q ≤ 30000) := ⟨by have := plen_mulS (fun p hp => (hfew p hp).1); have := HQ100.out; omega⟩
            clear hfew HFW
            go_wp2_with fail
            have HSD := Hd.mk (HS3.out.below (ex_drew (Below.refl _ _)))
            have HOD := Hd.mk (HOO.out.below (ex_drew (Below.refl _ _)) (Grow.refl F _))
            have hN := HS3.out.tk
            have HTK : Hd (S.log.length ≤ 1000 ∧ S.tk ≤ 1000000000) := ⟨by omega⟩
            have HQB : Hd (plen q ≤ 100000 ∧ q.length ≤ 200000) := ⟨by have := HPL.out; have := HQ100.out; omega⟩
            have ht1 := stake_calls (who := px) (id := py) (rev := pz) HSD.out.sr HSD.out.hd HTK.out.1 HTK.out.2 HPX.out HOD.out HQB.out.1 HQB.out.2
            rw [HS3.out.ha] at ht1
            have HT1 := Hd.mk ht1
            clear ht1 hN q0 q1 q2 q3 ql
            go_region_held3 (fun w' => BX4 wr.heap.size (.int .i64 px) (.int .i64 py) (.int .i64 pz) (.slice Aq q.length cq) w')
              (first | exact BX4.of HBX10.out | exact BX4.of HBX9.out | exact BX4.of HBX8.out | exact BX4.of HBX3.out.drew_ | assumption)
              (first
                | (go_at_call 12; refine HT1.out.mono ?_; rintro e w8 ⟨s', ha', hm', ho8, hgr8, rfl, hS8⟩; have HBX8 := Hd.mk (HBX3.out.drew_.only ho8 (fun e => by have := HS3.out.sr.lt _ e; have := HSQ.out.sr.lt _ e; omega)); have HA8 := Hd.mk (And.intro ha' hm'); have HO8 := Hd.mk ho8; have HGR8 := Hd.mk hgr8; have HS8 := Hd.mk hS8; have HF8 := Hd.mk (HSD.out.first ho8 hgr8 hS8); clear ha' hm' ho8 hgr8 hS8)
                | (go_at_call 13; have ht2 := rtake_calls (who := px) (id := py) (rev := pz) (op := q) (v := .slice Aq q.length cq) HF8.out.2.1 HTK.out.1 HTK.out.2 HPX.out (HOD.out.only HF8.out.2.2.2.2 HF8.out.2.2.2.1) HQB.out.1 HQB.out.2; rw [HS3.out.hb] at ht2; refine ht2.mono ?_; rintro e w9 ⟨r', hb', hm2', ho9, hgr9, rfl, hS9⟩; clear ht2; have HBX9 := Hd.mk (HBX8.out.only ho9 (fun e => by have := HSQ.out.rr.lt _ e; omega)); have HSP9 := Hd.mk (HSD.out.second HO8.out HGR8.out HS8.out HA8.out.1 HA8.out.2 ho9 hgr9 hS9 hb' hm2' (by have h1 := SV.take_len S px py pz q; have h2 := SV.take_tk S px py pz q; have h3 := HSD.out.tk; omega)); clear hb' hm2' ho9 hgr9 hS9)
                | (go_at_call 11; refine (bare_true (errV_of _ _) HSP9.out.hd.1).mono ?_; rintro e w10 ⟨rfl, hb10⟩; have HBX10 := Hd.mk (HBX9.out.below hb10 HBX9.out.lt); have HSP10 := Hd.mk (HSP9.out.below hb10); clear hb10)
              )
            all_goals
              generalize (S.take px py pz q).2 = S' at *
              generalize (S.take px py pz q).1 = cd at *
              have hl := slast_calls HSP10.out.sr HPX.out
              rw [HSP10.out.ha] at hl
              have HLST := Hd.mk hl
              clear hl HT1 HF8 HO8 HGR8 HS8 HA8
              go_wp2_with (go_at_call 14; refine HLST.out.mono ?_; rintro e w11 ⟨rfl, hb11⟩; unfold lastV; have HSP11 := Hd.mk (HSP10.out.below hb11); have HBX11 := Hd.mk (HBX10.out.below hb11 HBX10.out.lt); clear hb11)
              have hrv := fun d os => (srev_calls (HSP11.out.below (below_regrown w11 d os)).sr)
              have htx := fun d os => (stext_calls (HSP11.out.below (below_regrown w11 d os)).sr)
              have hrt := fun d os => (rstext_calls (HSP11.out.below (below_regrown w11 d os)).rr (by have := HSP11.out.tk; omega))
              rw [HSP11.out.ha] at hrv htx
              rw [HSP11.out.hb] at hrt
              have hRV : ∀ d os, Calls Tryz.prog 15 #[.pointer (some ⟨s0.a, 0, none⟩)] (grow (redrawn w11 d) os) fun e w'' => e = .returned (.int .i64 (S'.log.length : Int)) ∧ ∃ p : Regrown, w'' = grow (redrawn w11 p.d) p.os := fun d os => by
                refine (hrv d os).mono ?_
                rintro e w2 ⟨rfl, rfl⟩
                exact ⟨rfl, ⟨d, os⟩, rfl⟩
              have hTX : ∀ d os, Calls Tryz.prog 16 #[.pointer (some ⟨s0.a, 0, none⟩)] (grow (redrawn w11 d) os) fun e w'' => e = .returned (.string ⟨S'.doc.toArray⟩) ∧ ∃ p : Regrown, w'' = grow (redrawn w11 p.d) p.os := fun d os => Calls.regrown_of (htx d os)
              have hRT : ∀ d os, Calls Tryz.prog 17 #[.pointer (some ⟨r0.a, 0, none⟩)] (grow (redrawn w11 d) os) fun e w'' => e = .returned (.string ⟨S'.doc.toArray⟩) ∧ ∃ p : Regrown, w'' = grow (redrawn w11 p.d) p.os := fun d os => Calls.regrown_of (hrt d os)
              have hlk := fun d os => (HSP11.out.rr.map.below (below_regrown w11 d os)).look1 Tryz.underlying48 (zero_arr _) HPX.out
              have hzr := three_cells HSP11.out.rr.blk
              rw [HSP11.out.hb] at hzr
              obtain ⟨z0, z1, z2⟩ := hzr
              obtain ⟨Ae, ce, hve⟩ := own_form HSP11.out.rr.own
              rw [hve, HSP11.out.rr.len] at z1
              have HVE := Hd.mk hve
              have kz1 := cell_regrown z1
              have kz2 := cell_regrown z2
              have kq0 := cell_regrown ((BX4.of HBX11.out).2.1)
              generalize S'.last px = o at *
              unfold prV at hlk
              clear hrv htx hrt z0 z1 z2 hve HLST
              have hi0 := arr_at0
              have hi1 := arr_at1
              refine wp_region_quiet_below (by kernel_rfl) (by kernel_rfl) ?_
              repeat (quiet_step (first | (go_at_call 15; exact hRV _ _) | (go_at_call 16; exact hTX _ _) | (go_at_call 17; exact hRT _ _)))
              refine wpQuiet_nil ?_
              rintro _ ⟨⟨dq, oq⟩, rfl⟩
              have HSP12 := Hd.mk (HSP11.out.below (below_regrown w11 dq oq))
              have HBX12 := Hd.mk (HBX11.out.below (below_regrown w11 dq oq) HBX11.out.lt)
              generalize grow (redrawn w11 dq) oq = wz at HSP12 HBX12 ⊢
              clear hRV hTX hRT hlk kz1 kz2 kq0 hi0 hi1
              have hzr := three_cells HSP12.out.rr.blk
              rw [HSP12.out.hb, HVE.out, HSP12.out.rr.len] at hzr
              obtain ⟨z0, z1, z2⟩ := hzr
              obtain ⟨-, q0, q1, q2, q3⟩ := BX4.of HBX12.out
              have hlen := HSP12.out.tk.2
              have hx0 : 0 ≤ IntKind.u64.wrap pz := by unfold IntKind.wrap; simp [IntKind.signed, IntKind.bits]; omega
              obtain ⟨k0, hk0⟩ := Int.eq_ofNat_of_zero_le (Int.emod_nonneg (IntKind.u64.wrap pz) (show (S'.log.length : Int) + 1 ≠ 0 by omega))
              have hk1 : (k0 : Int) < (S'.log.length : Int) + 1 := by rw [← hk0]; exact Int.emod_lt_of_pos _ (by omega)
              have ht0 : (IntKind.u64.wrap pz).tmod ((S'.log.length : Int) + 1) = (k0 : Int) := by rw [Int.tmod_eq_emod_of_nonneg hx0]; exact hk0
              have y1 : IntKind.i64.wrap ((S'.log.length : Int) + 1) = (S'.log.length : Int) + 1 := by rw [IntKind.wrap_i64] <;> omega
              have y2 : IntKind.u64.wrap ((S'.log.length : Int) + 1) = (S'.log.length : Int) + 1 := by unfold IntKind.wrap; simp [IntKind.signed, IntKind.bits]; omega
              have y3 : IntKind.u64.wrap (k0 : Int) = (k0 : Int) := by unfold IntKind.wrap; simp [IntKind.signed, IntKind.bits]; omega
              have y4 : IntKind.i64.wrap (k0 : Int) = (k0 : Int) := by rw [IntKind.wrap_i64] <;> omega
              have HK0 : Hd (k0 ≤ S'.log.length) := ⟨by omega⟩
              go_wp2_with fail
              go_quiet (fail)
              clear hx0 hk0 ht0 y1 y2 y3 y4
              have HSPn := Hd.mk (HSP12.out.below (ex_drewN nq (Below.refl _ _)))
              have hlg := slog_calls (r := (k0 : Int)) HSPn.out.sr (by omega)
              rw [HSPn.out.ha] at hlg
              have HLG := Hd.mk hlg
              clear hlg
              go_wp2_with fail
              refine HLG.out.mono ?_
              rintro e w13 ⟨hb13, -, hok⟩
              obtain ⟨v13, L13, rfl, hs13, hf13, ho13, -⟩ := hok ⟨by omega, by have := HK0.out; omega⟩
              have HSP13 := Hd.mk (HSPn.out.below hb13)
              have HS13 := Hd.mk hs13
              have HF13 := Hd.mk hf13
              have HO13 := Hd.mk ho13
              obtain ⟨A13, c13, rfl, -⟩ := hs13
              clear hb13 hok hf13 ho13 HLG z0 z1 z2 q0 q1 q2 q3
              have hzr := three_cells HSP13.out.rr.blk
              rw [HSP13.out.hb, HVE.out, HSP13.out.rr.len] at hzr
              obtain ⟨z0, z1, z2⟩ := hzr
              have hsd := Sl.of_own HSP13.out.rr.own
              rw [HVE.out, HSP13.out.rr.len] at hsd
              have hsf := hsd.from_ HK0.out
              have hrun := fun W => run_from el_rentry (A := Ae) (n := S'.log.length) (c := ce) (k := k0) (w := W) HK0.out
              obtain ⟨As, cs, hvs⟩ : ∃ As cs, sliced Ae k0 S'.log.length ce 3 = .slice As (S'.log.length - k0) cs := ⟨_, _, rfl⟩
              rw [hvs] at hsf hrun
              rw [← ens_drop] at hsf
              have HSF := Hd.mk hsf
              clear hsd hsf hvs
              have HL13 : Hd (L13.length = S'.log.length - k0) := ⟨by have := congrArg List.length HF13.out; simpa using this⟩
              go_wp2_with fail
              refine (sameEn_calls HS13.out (LB := r'.L.drop k0) (by rw [HL13.out]; exact HSF.out) (by rw [HF13.out, List.map_drop, HSP13.out.rr.log]; rfl) (fun x hx => (HO13.out x hx).1) (fun x hx => (HSP13.out.rr.ops x (List.mem_of_mem_drop hx)).1) (by have := HL13.out; omega)).mono ?_
              rintro e w14 ⟨rfl, hb14⟩
              have HSP14 := Hd.mk (HSP13.out.below hb14)
              clear hb14 z0 z1 z2 hrun
              go_wp2_with fail
              exact ⟨⟨k + 1, S', s', r', _, by omega, by go_num, HSP14.out⟩, by simp only [intOf]; omega⟩
          · go_wp2_with fail
            go_ret
            exact ⟨rfl, HS3.out.bel⟩
        · obtain rfl : k = n := by omega
          have hlen : S.log.length ≤ 1000 := by have := HSQ.out.tk; omega
          have hlen0 : (0 : Int) ≤ (S.log.length : Int) := by omega
          have hl1 := slog_calls (r := -1) HSQ.out.sr hlen
          rw [HSQ.out.ha] at hl1
          have HL1 := Hd.mk hl1
          have hzr := three_cells HSQ.out.rr.blk
          rw [HSQ.out.hb] at hzr
          obtain ⟨z0, z1, z2⟩ := hzr
          obtain ⟨Ae, ce, hve⟩ := own_form HSQ.out.rr.own
          rw [hve, HSQ.out.rr.len] at z1
          have hrl : r0.a < wr.heap.size := by rw [← HSQ.out.hb]; exact HSQ.out.rr.blk.lt
          clear hl1 z0 z2 hsp hve
          go_wp2_with fail
          refine HL1.out.mono ?_
          rintro e w5 ⟨hb5, hno, -⟩
          obtain rfl := hno (by omega)
          have HS5 := Hd.mk (HSQ.out.below hb5)
          have y1 := hb5.cell (p := ⟨r0.a, 1, none⟩) hrl
          rw [z1] at y1
          have hrl5 : r0.a < w5.heap.size := Nat.lt_of_lt_of_le hrl hb5.size
          unfold errno
          clear hb5 hno z1 hrl HL1
          have hl2 := slog_calls (r := (S.log.length : Int) + 1) HS5.out.sr hlen
          rw [HS5.out.ha] at hl2
          have HL2 := Hd.mk hl2
          clear hl2
          go_wp2_with fail
          refine HL2.out.mono ?_
          rintro e w6 ⟨hb6, hno, -⟩
          obtain rfl := hno (by omega)
          have HS6 := Hd.mk (HS5.out.below hb6)
          unfold errno
          clear hb6 hno y1 hrl5 HL2
          go_wp2_with fail
          refine (bare_true (.no 2) HS6.out.hd.1).mono ?_
          rintro e w7 ⟨rfl, hb7⟩
          have HS7 := Hd.mk (HS6.out.below hb7)
          clear hb7
          go_wp2_with fail
          refine (bare_true (.no 2) HS7.out.hd.1).mono ?_
          rintro e w8 ⟨rfl, hb8⟩
          have HS8 := Hd.mk (HS7.out.below hb8)
          clear hb8
          go_wp2_with fail
          go_ret
          exact ⟨rfl, HS8.out.bel⟩
  · have HRR := Hd.mk hr
    clear hsp h1 h2 hsm hr
    go_enter Tryz.func3, Tryz.ntmps3
    go_wp2_with (first
      | (go_at_call 7; refine HNEW.out.mono ?_; rintro e w1 ⟨hb1, h5, -, -⟩; obtain ⟨g, rfl, hat⟩ := h5 HRR.out; have HB1 := Hd.mk hb1; have HAT := Hd.mk hat; clear hb1 h5 hat)
      | (go_at_call 8; refine (HRN _).out.mono ?_; rintro e w2 ⟨hb2, h5, -, -⟩; obtain rfl := h5 HRR.out; have HAT2 := Hd.mk (HAT.out.below hb2); have HB2 := Hd.mk (bstep HB1.out hb2); clear hb2 h5)
      | (go_at_call 9; refine (is_true (.at_ g _ _ (HAT2.out.below (ex_alloc (Below.refl _ _) _))) (HG.out.below (ex_alloc HB2.out _))).mono ?_; rintro e w3 ⟨rfl, hb3⟩; have HB3 := Hd.mk (bstep (ex_alloc HB2.out _) hb3); clear hb3))
    go_ret
    exact ⟨rfl, HB3.out⟩
end
end Go.Proofs.YtdgdajnbkfmijaaGreatDoor
