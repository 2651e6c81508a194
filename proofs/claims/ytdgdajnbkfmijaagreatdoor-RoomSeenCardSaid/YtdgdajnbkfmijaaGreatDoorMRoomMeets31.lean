/- ops.Compose. -/
import Derived.Test.YtdgdajnbkfmijaaGreatDoorMRoomMeets30
namespace Go.Proofs.YtdgdajnbkfmijaaGreatDoor
open Go.RowKit
set_option maxRecDepth 100000
/-- What Compose tells. -/
noncomputable def cmc (a b : List PT) : Int := if chk2 a b = 0 then (if comes a = was b then 0 else 2) else chk2 a b
theorem comes_bd {l : List PT} (ha : ∀ p ∈ l, p.arg) : 0 ≤ comes l ∧ comes l ≤ was l + plen l := by
  induction l with
  | nil => simp [comes, was, plen]
  | cons p l ih =>
    have h1 := ih (fun q hq => ha q (by simp [hq]))
    obtain ⟨_, h4, h5⟩ := ha p (by simp)
    rw [comes, was, plen]
    omega
section
attribute [local go_sem] add_mk ext_take
set_option maxHeartbeats 16000000 in
theorem ocomp_new {la lb : List PT} {va vb : Value} {na nb : Nat} {w : World} (hg : Hdl w) (ha : Sl w 3 va na (opv la)) (hb : Sl w 3 vb nb (opv lb)) (hfa : Mo la na) (hfb : Mo lb nb) :
    Calls Tryz.prog 77 #[va, vb] w (TrNew (cmc la lb) (cm (expand la) (expand lb)) w) := by
  have hla : la.length = na := by have := ha.len; rw [opv_length] at this; omega
  have hlb : lb.length = nb := by have := hb.len; rw [opv_length] at this; omega
  have HG := Hd.mk hg
  have HA := Hd.mk ha
  have HB := Hd.mk hb
  have hna := hfa.len
  have hnb := hfb.len
  have HFA := Hd.mk hfa
  have HFB := Hd.mk hfb
  obtain ⟨A1, c1, rfl, -⟩ := ha
  obtain ⟨A2, c2, rfl, -⟩ := hb
  clear hg hfa hfb
  go_enter Tryz.func77, Tryz.ntmps77
  go_wp2_with fail
  refine (checked_calls HG.out HA.out HB.out HFA.out.put HFB.out.put).mono ?_
  rintro e w1 ⟨rfl, hb1⟩
  have HB1 := Hd.mk hb1
  clear hb1
  by_cases h0 : chk2 la lb = 0
  · obtain ⟨ga, gb⟩ := chk2_good h0
    have harga : ∀ p ∈ la, p.arg := fun p hp => (ga p hp).1
    have hargb : ∀ p ∈ lb, p.arg := fun p hp => (gb p hp).1
    obtain ⟨f1, f2, f3⟩ := HFA.out.bd harga
    obtain ⟨f4, f5, f6⟩ := HFB.out.bd hargb
    have f7 := comes_bd harga
    have ea := wrap_id (a := comes la) f7.1 (by omega)
    have eb := wrap_id f6 (by omega)
    have HEA := Hd.mk ea
    have HEB := Hd.mk eb
    have HARA := Hd.mk harga
    have HARB := Hd.mk hargb
    have HWA : Hd (was la ≤ 1000000 ∧ plen la ≤ 900000 ∧ 0 ≤ was la) := ⟨by omega, by omega, f3⟩
    have HWB : Hd (was lb ≤ 1000000 ∧ plen lb ≤ 900000 ∧ 0 ≤ was lb) := ⟨by omega, by omega, f6⟩
    rw [h0, errOf_zero]
    have H0 := Hd.mk h0
    clear h0 ga gb harga hargb f1 f2 f3 f4 f5 f6 f7 ea eb
    go_wp2_with fail
    refine (olens_calls (HA.out.below HB1.out)).mono ?_
    rintro e w2 ⟨he, hb2⟩
    rw [HEA.out] at he
    subst he
    have HB2 := Hd.mk (bstep HB1.out hb2)
    clear hb2
    go_wp2_with fail
    refine (olens_calls (HB.out.below HB2.out)).mono ?_
    rintro e w3 ⟨he, hb3⟩
    rw [HEB.out] at he
    subst he
    have HB3 := Hd.mk (bstep HB2.out hb3)
    clear hb3
    by_cases hw : comes la = was lb
    · have HTC : Hd (cmc la lb = 0) := ⟨by unfold cmc; rw [if_pos H0.out, if_pos hw]⟩
      have HW := Hd.mk hw
      have hw' : (was lb == was lb) = true := beq_self_eq_true _
      rw [hw]
      clear hw
      have hx5 : Below w3.heap.size w3 ((w3.alloc (.cells #[.slice A1 na c1, .int .i64 0] 221)).alloc (.cells #[.slice A2 nb c2, .int .i64 0] 221)) := ex_alloc (ex_alloc (Below.refl _ _) _) _
      have hbx : Blk ((w3.alloc (.cells #[.slice A1 na c1, .int .i64 0] 221)).alloc (.cells #[.slice A2 nb c2, .int .i64 0] 221)) w3.heap.size 221 #[.slice A1 na c1, .int .i64 0] := (Blk.new _ _ _).alloc _
      have hby : Blk ((w3.alloc (.cells #[.slice A1 na c1, .int .i64 0] 221)).alloc (.cells #[.slice A2 nb c2, .int .i64 0] 221)) (w3.heap.size + 1) 221 #[.slice A2 nb c2, .int .i64 0] := by
        have := Blk.new (w3.alloc (.cells #[.slice A1 na c1, .int .i64 0] 221)) 221 #[.slice A2 nb c2, .int .i64 0]
        rwa [World.size_alloc] at this
      have HTI : Hd (TI ((w3.alloc (.cells #[.slice A1 na c1, .int .i64 0] 221)).alloc (.cells #[.slice A2 nb c2, .int .i64 0] 221)) ((w3.alloc (.cells #[.slice A1 na c1, .int .i64 0] 221)).alloc (.cells #[.slice A2 nb c2, .int .i64 0] 221)) w3.heap.size (w3.heap.size + 1) (.slice A1 na c1) na la 0 (.slice A2 nb c2) nb lb 0 (.slice none 0 0) []) :=
        ⟨hbx, hby, (HA.out.below HB3.out).below hx5, (HB.out.below HB3.out).below hx5, tok_zero HARA.out, tok_zero HARB.out, World.ownsRow_nil _ _ _ _, Only.refl _ _⟩
      have HTG : Hd (TG ((w3.alloc (.cells #[.slice A1 na c1, .int .i64 0] 221)).alloc (.cells #[.slice A2 nb c2, .int .i64 0] 221)) w3.heap.size (w3.heap.size + 1)) := ⟨⟨⟨_, _, hbx⟩, ⟨_, _, hby⟩, by omega⟩⟩
      have HB7 : Hd (Below w.heap.size w ((w3.alloc (.cells #[.slice A1 na c1, .int .i64 0] 221)).alloc (.cells #[.slice A2 nb c2, .int .i64 0] 221))) := ⟨bstep HB3.out hx5⟩
      clear hx5 hbx hby
      obtain ⟨em1, em2, em3⟩ := expand_meas HARA.out
      obtain ⟨em4, em5, em6⟩ := expand_meas HARB.out
      have HTR : Hd (∃ T, T ≤ 4000000 ∧ TRr (cm (expand la) (expand lb)) T cm ucomes uwas la lb ((w3.alloc (.cells #[.slice A1 na c1, .int .i64 0] 221)).alloc (.cells #[.slice A2 nb c2, .int .i64 0] 221)) ((w3.alloc (.cells #[.slice A1 na c1, .int .i64 0] 221)).alloc (.cells #[.slice A2 nb c2, .int .i64 0] 221)) w3.heap.size (w3.heap.size + 1) T (.slice A1 na c1) na la 0 (.slice A2 nb c2) nb lb 0 (.slice none 0 0) []) := ⟨by
        have h1 := HWA.out
        have h2 := HWB.out
        have h3 := HW.out
        refine ⟨(expand la).length + (expand lb).length, by omega, HTI.out, fun p hp => by simp at hp, by simp [tape, expand_nil], ?_, by simp [tape], by simp, fun q hq => hq, fun q hq => hq⟩
        simp only [tape, List.drop_zero]
        omega⟩
      have HTX : Hd (Tbd la) := ⟨tbd_of HARA.out (by have := HWA.out; omega) (by have := HWA.out; omega)⟩
      have HTY : Hd (Tbd lb) := ⟨tbd_of HARB.out (by have := HWB.out; omega) (by have := HWB.out; omega)⟩
      have HUL : Hd ((cm (expand la) (expand lb)).length ≤ 4000000) := ⟨by have := cm_len (expand la) (expand lb); have h1 := HWA.out; have h2 := HWB.out; omega⟩
      clear em1 em2 em3 em4 em5 em6
      generalize cm (expand la) (expand lb) = U at *
      obtain ⟨T, hT, htr⟩ := HTR.out
      have HTR0 := Hd.mk htr
      have HW0 := Hd.mk hT
      clear htr HTR HTI
      go_wp2_with fail
      generalize ((w3.alloc (.cells #[.slice A1 na c1, .int .i64 0] 221)).alloc (.cells #[.slice A2 nb c2, .int .i64 0] 221)) = W0 at *
      clear hw'
      go_loopg [11] T (fun gk so wr => ∃ vx nx lx ax vy ny ly ay out, TRr U T cm ucomes uwas la lb W0 wr w3.heap.size (w3.heap.size + 1) gk vx nx lx ax vy ny ly ay so out)
      case atStart => exact ⟨_, _, _, _, _, _, _, _, _, HTR0.out⟩
      case round =>
        obtain ⟨vx, nx, lx, ax, vy, ny, ly, ay, out, hrr⟩ := hrel
        have HRR := Hd.mk hrr
        obtain ⟨Ao, co, rfl⟩ := own_form hrr.ti.own
        clear hrr
        go_wp2_with fail
        refine (tnext_calls (HRR.out.ti.px HTG.out) (tbd_sub HTX.out HRR.out.mx)).mono ?_
        rintro e w7 ⟨vx2, nx2, lx2, ax2, ⟨pk, pd, pb⟩, s, rfl, ht1, htp1, hnx1, htok1, hmem1, htr1, ho1⟩
        have HT1 := Hd.mk (HRR.out.ti.nx_ HTG.out ht1 htr1 ho1)
        have HP1 := Hd.mk htp1
        have HN1 := Hd.mk hnx1
        have HK1 := Hd.mk htok1
        have HM1 := Hd.mk hmem1
        have hz7 := ho1.size
        clear ht1 htp1 hnx1 htok1 hmem1 htr1 ho1
        dsimp only
        go_wp2_with fail
        refine (tnext_calls ((HT1.out.alloc _).py HTG.out) (tbd_sub HTY.out HRR.out.my)).mono ?_
        rintro e w8 ⟨vy2, ny2, ly2, ay2, ⟨qk, qd, qb⟩, t, rfl, ht2, htp2, hnx2, htok2, hmem2, htr2, ho2⟩
        have HT2 := Hd.mk ((HT1.out.alloc _).ny_ HTG.out ht2 htr2 ho2)
        have HP2 := Hd.mk htp2
        have HN2 := Hd.mk hnx2
        have HK2 := Hd.mk htok2
        have HM2 := Hd.mk hmem2
        have HO2 := Hd.mk ho2
        clear ht2 htp2 hnx2 htok2 hmem2 htr2 ho2
        dsimp only
        have hgx : w.heap.size ≤ w3.heap.size := HB3.out.size
        have hgl := HTG.out.ltx
        have hgl2 := HTG.out.lty
        have hz8 := HO2.out.size
        simp only [World.size_alloc] at hz8
        have hW0r := HRR.out.ti.only.size
        have hown0 : ∀ k, (Value.slice Ao out.length co).ownBlock = some k → k < wr.heap.size := fun k hk => (HRR.out.ti.own.lt k hk).2
        have hlen0 := HRR.out.len
        have hT0 := HW0.out
        have hpb := (Blk.new w7 113 #[.int .i64 pk, .int .i64 pd, .string ⟨pb.toArray⟩]).only HO2.out (show ¬ w7.heap.size = w3.heap.size + 1 by omega)
        have HPB := Hd.mk hpb
        have p0 := hpb.cell 0
        have p1 := hpb.cell 1
        have p2 := hpb.cell 2
        simp only [List.getElem?_toArray, List.getElem?_cons_zero, List.getElem?_cons_succ] at p0 p1 p2
        have hgp : w7.heap.size < w8.heap.size := by omega
        have HL1 : Hd (out.length + 1 ≤ maxLen) := ⟨by unfold maxLen; omega⟩
        have HL2 : Hd ((out.length + 1) * 32 ≤ 140737488355328) := ⟨by omega⟩
        have HL3 : Hd (W0.heap.size ≤ w8.heap.size + 1) := ⟨by omega⟩
        have HAX := Hd.mk (tok_bd HT2.out.ox (tbd_sub HTX.out (fun q hq => HRR.out.mx q (HM1.out q hq))))
        have HAY := Hd.mk (tok_bd HT2.out.oy (tbd_sub HTY.out (fun q hq => HRR.out.my q (HM2.out q hq))))
        clear hpb
        by_cases hst : s = true ∨ t = true
        · by_cases hpd : 0 < pd
          · obtain ⟨m, hm0, hpe, heq, hbal, hle⟩ := cm_s1 (out := out) HN1.out hpd HRR.out.bal
            simp only [PT.mk.injEq] at hpe
            obtain ⟨rfl, rfl, rfl⟩ := hpe
            have hs1 : s = true := by
              rcases HN1.out with ⟨h, _⟩ | ⟨_, h, _⟩
              · exact h
              · cases h; simp at hpd
            subst hs1
            have hpa := (HN1.out.arg_ rfl).1
            have hsz := (HN1.out.arg_ rfl).2.1
            dsimp only [List.length_nil] at hsz
            have HPA := Hd.mk hpa
            have HEQ := Hd.mk heq
            have HBAL := Hd.mk hbal
            have HTK := Hd.mk (HK1.out m (by omega))
            have hm1 : m ≤ 4611686018427387903 := by have := HRR.out.hgk; omega
            have hpd' : (0 : Int) < m := by omega
            clear heq hbal hsz hpa hst
            go_wp2_with (at_builtin; refine append_lit' el_part #[.int .i64 0, .int .i64 (m : Int), .string ⟨#[]⟩] (HT2.out.alloc _).own rfl rfl rfl rfl (by simp) rfl (one3 rfl rfl rfl) HL1.out HL2.out (al_le HL3.out) ?_; intro v9 w9 hown9 hbel9 hgr9 hnew9; obtain ⟨A9, k9, rfl⟩ := own_form hown9; have HT9 := Hd.mk ((HT2.out.alloc _).add (p := ⟨0, m, []⟩) HTG.out rfl hown9 hbel9 hgr9); have hpb9 := (HPB.out.alloc _).only (Only.of_grown hgr9) (fun e => by have := hown0 _ e.symm; omega); have hqb9 := (Blk.new w8 113 #[.int .i64 qk, .int .i64 qd, .string ⟨qb.toArray⟩]).only (Only.of_grown hgr9) (fun e => by have := hown0 _ e.symm; omega); have P0 := hpb9.cell 0; have P1 := hpb9.cell 1; have P2 := hpb9.cell 2; have Q0 := hqb9.cell 0; have Q1 := hqb9.cell 1; have Q2 := hqb9.cell 2; simp only [List.getElem?_toArray, List.getElem?_cons_zero, List.getElem?_cons_succ] at P0 P1 P2 Q0 Q1 Q2; clear hown9 hbel9 hgr9 hnew9 hpb9 hqb9)
            refine (ttake_calls (m := m) HT9.out.bx rfl HAX.out hm1).mono ?_
            rintro e w10 ⟨rfl, rfl⟩
            go_wp2_with fail
            obtain ⟨g1, g2⟩ := HRR.out.step (i := m) (j := 0) (HT9.out.tkx HTG.out HTK.out) (snoc_arg HRR.out.arg HPA.out) HEQ.out HBAL.out (by omega) (Nat.zero_le _) (by omega) (by simp) HP1.out HP2.out HM1.out HM2.out
            go_roundg ((tape lx ax).length - m + ((tape ly ay).length - 0))
            case measure => exact g1
            case rel => exact ⟨_, _, _, _, _, _, _, _, _, g2⟩
          · by_cases hqb0 : qb = []
            · subst hqb0
              by_cases hpb0 : pb = []
              · subst hpb0
                obtain ⟨m, hm0, hmin, hmx, hmy, hbal, hq1, hq2⟩ := cm_s4 (out := out) HN1.out HN2.out rfl hpd rfl HRR.out.bal hst
                have hs1 : s = true := by
                  rcases HN1.out with ⟨h, _⟩ | ⟨_, h, _⟩
                  · exact h
                  · cases h; simp at hmin; omega
                have ht1 : t = true := by
                  rcases HN2.out with ⟨h, _⟩ | ⟨_, h, _⟩
                  · exact h
                  · cases h; simp at hmin; omega
                subst hs1 ht1
                obtain ⟨hpa, hsz1, hsx⟩ := HN1.out.arg_ rfl
                obtain ⟨hqa, hsz2, hsy⟩ := HN2.out.arg_ rfl
                obtain ⟨_, hk0, hd0⟩ := hpa
                obtain ⟨_, hk1, hd1⟩ := hqa
                dsimp only [List.length_nil] at hmin hsz1 hsz2 hk0 hd0 hk1 hd1 hq1 hq2
                have hgk := HRR.out.hgk
                have hb1 : pk ≤ 4000000 := by omega
                have hb3 : qk ≤ 4000000 := by omega
                have hb4 : qd ≤ 4000000 := by omega
                have HTK := Hd.mk (HK1.out m (by omega))
                have HTL := Hd.mk (HK2.out m (by omega))
                have HQ1 := Hd.mk hq1
                have HQ2 := Hd.mk hq2
                have HBAL := Hd.mk hbal
                have HMIN := Hd.mk hmin
                clear hq1 hq2 hbal hst hmin hsz1 hsz2 hsx hsy
                go_upto_region 13 with fail
                have e20 : (if qk + qd < pk then qk + qd else pk) = (m : Int) := by have := HMIN.out; split <;> omega
                have hm1 : m ≤ 4611686018427387903 := by omega
                have HMX := Hd.mk hmx
                have HMY := Hd.mk hmy
                rw [e20]
                clear e20
                by_cases hqk : 0 < qk
                · have HE := Hd.mk (HQ1.out hqk)
                  go_wp2_with (at_builtin; refine append_lit' el_part #[.int .i64 (m : Int), .int .i64 0, .string ⟨#[]⟩] (HT2.out.alloc _).own rfl rfl rfl rfl (by simp) rfl (one3 rfl rfl rfl) HL1.out HL2.out (al_le HL3.out) ?_; intro v9 w9 hown9 hbel9 hgr9 hnew9; obtain ⟨A9, k9, rfl⟩ := own_form hown9; have HT9 := Hd.mk ((HT2.out.alloc _).add (p := ⟨m, 0, []⟩) HTG.out rfl hown9 hbel9 hgr9); clear hown9 hbel9 hgr9 hnew9)
                  have HT10 := Hd.mk (HT9.out.tkx HTG.out HTK.out)
                  refine (ttake_calls (m := m) HT9.out.bx rfl HAX.out hm1).mono ?_
                  rintro e w10 ⟨rfl, rfl⟩
                  go_wp2_with fail
                  refine (ttake_calls (m := m) HT10.out.by_ rfl HAY.out hm1).mono ?_
                  rintro e w10 ⟨rfl, rfl⟩
                  go_wp2_with fail
                  obtain ⟨g1, g2⟩ := HRR.out.step (i := m) (j := m) (HT10.out.tky HTG.out HTL.out) (snoc_arg HRR.out.arg (PT.arg_keep (by omega))) HE.out HBAL.out HMX.out HMY.out (by omega) (by simp) HP1.out HP2.out HM1.out HM2.out
                  go_roundg ((tape lx ax).length - m + ((tape ly ay).length - m))
                  case measure => exact g1
                  case rel => exact ⟨_, _, _, _, _, _, _, _, _, g2⟩
                · have HE := Hd.mk (HQ2.out hqk)
                  go_wp2_with (at_builtin; refine append_lit' el_part #[.int .i64 0, .int .i64 (m : Int), .string ⟨#[]⟩] (HT2.out.alloc _).own rfl rfl rfl rfl (by simp) rfl (one3 rfl rfl rfl) HL1.out HL2.out (al_le HL3.out) ?_; intro v9 w9 hown9 hbel9 hgr9 hnew9; obtain ⟨A9, k9, rfl⟩ := own_form hown9; have HT9 := Hd.mk ((HT2.out.alloc _).add (p := ⟨0, m, []⟩) HTG.out rfl hown9 hbel9 hgr9); clear hown9 hbel9 hgr9 hnew9)
                  have HT10 := Hd.mk (HT9.out.tkx HTG.out HTK.out)
                  refine (ttake_calls (m := m) HT9.out.bx rfl HAX.out hm1).mono ?_
                  rintro e w10 ⟨rfl, rfl⟩
                  go_wp2_with fail
                  refine (ttake_calls (m := m) HT10.out.by_ rfl HAY.out hm1).mono ?_
                  rintro e w10 ⟨rfl, rfl⟩
                  go_wp2_with fail
                  obtain ⟨g1, g2⟩ := HRR.out.step (i := m) (j := m) (HT10.out.tky HTG.out HTL.out) (snoc_arg HRR.out.arg (PT.arg_drop (by omega))) HE.out HBAL.out HMX.out HMY.out (by omega) (by simp) HP1.out HP2.out HM1.out HM2.out
                  go_roundg ((tape lx ax).length - m + ((tape ly ay).length - m))
                  case measure => exact g1
                  case rel => exact ⟨_, _, _, _, _, _, _, _, _, g2⟩
              · have hpb' : (pb == []) = false := by rw [beq_eq_false_iff_ne]; exact hpb0
                obtain ⟨m, hm0, hmin, hmp, hmx, hmy, hbal, hq1, hq2⟩ := cm_s3 (out := out) HN1.out HN2.out hpb0 rfl HRR.out.bal
                have hs1 := (HN1.out.isPut_ hpb0).1
                have ht1 : t = true := by
                  rcases HN2.out with ⟨h, _⟩ | ⟨_, h, _⟩
                  · exact h
                  · cases h; simp at hmin; omega
                subst hs1 ht1
                obtain ⟨hpa, hsz1, hsx⟩ := HN1.out.arg_ rfl
                obtain ⟨hqa, hsz2, hsy⟩ := HN2.out.arg_ rfl
                obtain ⟨_, hk0, hd0⟩ := hpa
                obtain ⟨_, hk1, hd1⟩ := hqa
                dsimp only at hmin hmp hsz1 hsz2 hk0 hd0 hk1 hd1 hq1 hq2
                rw [List.length_nil] at hsz2
                have hgk := HRR.out.hgk
                have hb1 : pb.length ≤ 4000000 := by omega
                have hb3 : qk ≤ 4000000 := by omega
                have hb4 : qd ≤ 4000000 := by omega
                have HTK := Hd.mk (HK1.out m (by omega))
                have HTL := Hd.mk (HK2.out m (by omega))
                have HQ1 := Hd.mk hq1
                have HQ2 := Hd.mk hq2
                have HBAL := Hd.mk hbal
                have HMIN := Hd.mk hmin
                clear hq1 hq2 hbal hst hmin hsz1 hsz2 hsx hsy
                go_upto_region 28 with fail
                have e20 : (if qk + qd < (pb.length : Int) then qk + qd else (pb.length : Int)) = (m : Int) := by have := HMIN.out; split <;> omega
                have hm1 : m ≤ 4611686018427387903 := by omega
                have HMX := Hd.mk hmx
                have HMY := Hd.mk hmy
                rw [e20]
                clear e20
                by_cases hqk : 0 < qk
                · obtain ⟨hpa3, he3⟩ := HQ1.out hqk
                  have HE := Hd.mk he3
                  have HPA := Hd.mk hpa3
                  clear hpa3 he3
                  go_wp2_with (at_builtin; refine append_lit' el_part #[.int .i64 0, .int .i64 0, .string ⟨(pb.take m).toArray⟩] (HT2.out.alloc _).own rfl rfl rfl rfl (by simp) rfl (one3 rfl rfl rfl) HL1.out HL2.out (al_le HL3.out) ?_; intro v9 w9 hown9 hbel9 hgr9 hnew9; obtain ⟨A9, k9, rfl⟩ := own_form hown9; have HT9 := Hd.mk ((HT2.out.alloc _).add (p := ⟨0, 0, pb.take m⟩) HTG.out rfl hown9 hbel9 hgr9); clear hown9 hbel9 hgr9 hnew9)
                  have HT10 := Hd.mk (HT9.out.tkx HTG.out HTK.out)
                  refine (ttake_calls (m := m) HT9.out.bx rfl HAX.out hm1).mono ?_
                  rintro e w10 ⟨rfl, rfl⟩
                  go_wp2_with fail
                  refine (ttake_calls (m := m) HT10.out.by_ rfl HAY.out hm1).mono ?_
                  rintro e w10 ⟨rfl, rfl⟩
                  go_wp2_with fail
                  obtain ⟨g1, g2⟩ := HRR.out.step (i := m) (j := m) (HT10.out.tky HTG.out HTL.out) (snoc_arg HRR.out.arg HPA.out) HE.out HBAL.out HMX.out HMY.out (by omega) (by simp) HP1.out HP2.out HM1.out HM2.out
                  go_roundg ((tape lx ax).length - m + ((tape ly ay).length - m))
                  case measure => exact g1
                  case rel => exact ⟨_, _, _, _, _, _, _, _, _, g2⟩
                · have HE := Hd.mk (HQ2.out hqk)
                  have HT9 := Hd.mk (HT2.out.alloc (.cells #[.int .i64 qk, .int .i64 qd, .string ⟨#[]⟩] 113))
                  go_wp2_with fail
                  have HT10 := Hd.mk (HT9.out.tkx HTG.out HTK.out)
                  refine (ttake_calls (m := m) HT9.out.bx rfl HAX.out hm1).mono ?_
                  rintro e w10 ⟨rfl, rfl⟩
                  go_wp2_with fail
                  refine (ttake_calls (m := m) HT10.out.by_ rfl HAY.out hm1).mono ?_
                  rintro e w10 ⟨rfl, rfl⟩
                  go_wp2_with fail
                  obtain ⟨g1, g2⟩ := HRR.out.step (i := m) (j := m) (HT10.out.tky HTG.out HTL.out) HRR.out.arg HE.out HBAL.out HMX.out HMY.out (by omega) (by simp) HP1.out HP2.out HM1.out HM2.out
                  go_roundg ((tape lx ax).length - m + ((tape ly ay).length - m))
                  case measure => exact g1
                  case rel => exact ⟨_, _, _, _, _, _, _, _, _, g2⟩
            · have hqb' : (qb == []) = false := by rw [beq_eq_false_iff_ne]; exact hqb0
              obtain ⟨hpa, heq, hbal, hle⟩ := cm_s2 (out := out) HN1.out HN2.out hpd hqb0 HRR.out.bal
              have ht1 := (HN2.out.isPut_ hqb0).1
              subst ht1
              have HPA := Hd.mk hpa
              have HEQ := Hd.mk heq
              have HBAL := Hd.mk hbal
              have hsz := (HN2.out.arg_ rfl).2.1
              obtain ⟨_, hk0, hd0⟩ := hpa
              dsimp only at hle hsz hk0 hd0
              have hql := List.length_pos_iff.2 hqb0
              have HTK := Hd.mk (HK2.out qb.length (by omega))
              have hql2 : qb.length ≤ 4611686018427387903 := by have := HRR.out.hgk; omega
              clear heq hbal hsz hst
              cases s
              all_goals
                go_wp2_with (at_builtin; refine append_lit' el_part #[.int .i64 qk, .int .i64 qd, .string ⟨qb.toArray⟩] (HT2.out.alloc _).own rfl rfl rfl rfl (by simp) rfl (one3 rfl rfl rfl) HL1.out HL2.out (al_le HL3.out) ?_; intro v9 w9 hown9 hbel9 hgr9 hnew9; obtain ⟨A9, k9, rfl⟩ := own_form hown9; have HT9 := Hd.mk ((HT2.out.alloc _).add (p := ⟨qk, qd, qb⟩) HTG.out rfl hown9 hbel9 hgr9); have hpb9 := (HPB.out.alloc _).only (Only.of_grown hgr9) (fun e => by have := hown0 _ e.symm; omega); have hqb9 := (Blk.new w8 113 #[.int .i64 qk, .int .i64 qd, .string ⟨qb.toArray⟩]).only (Only.of_grown hgr9) (fun e => by have := hown0 _ e.symm; omega); have P0 := hpb9.cell 0; have P1 := hpb9.cell 1; have P2 := hpb9.cell 2; have Q0 := hqb9.cell 0; have Q1 := hqb9.cell 1; have Q2 := hqb9.cell 2; simp only [List.getElem?_toArray, List.getElem?_cons_zero, List.getElem?_cons_succ] at P0 P1 P2 Q0 Q1 Q2; clear hown9 hbel9 hgr9 hnew9 hpb9 hqb9)
                refine (ttake_calls (m := qb.length) HT9.out.by_ rfl HAY.out hql2).mono ?_
                rintro e w10 ⟨rfl, rfl⟩
                go_wp2_with fail
                obtain ⟨g1, g2⟩ := HRR.out.step (i := 0) (j := qb.length) (HT9.out.tky HTG.out HTK.out) (snoc_arg HRR.out.arg HPA.out) HEQ.out HBAL.out (Nat.zero_le _) (by omega) (by omega) (by simp) HP1.out HP2.out HM1.out HM2.out
                go_roundg ((tape lx ax).length - 0 + ((tape ly ay).length - qb.length))
                case measure => exact g1
                case rel => exact ⟨_, _, _, _, _, _, _, _, _, g2⟩
        · have hs0 : s = false := Bool.eq_false_iff.2 (fun e => hst (.inl e))
          have ht0 : t = false := Bool.eq_false_iff.2 (fun e => hst (.inr e))
          subst hs0 ht0
          have hnil : tape lx ax = [] ∧ tape ly ay = [] := by
            refine ⟨?_, ?_⟩
            · rcases HN1.out with ⟨h, _⟩ | ⟨_, _, h⟩
              · exact absurd h (by decide)
              · exact h
            · rcases HN2.out with ⟨h, _⟩ | ⟨_, _, h⟩
              · exact absurd h (by decide)
              · exact h
          have HU : Hd (expand out = U) := ⟨by have := HRR.out.eq; rw [hnil.1, hnil.2, cm] at this; simpa using this⟩
          have HM : Hd (was out ≤ 4000000 ∧ plen out ≤ 4000000) := ⟨by
            obtain ⟨_, _, e3⟩ := expand_meas HRR.out.arg
            have h1 := HUL.out
            have h2 := was_nn HRR.out.arg
            rw [HU.out] at e3
            omega⟩
          clear hst hnil
          go_wp2_with fail
          refine (norm_new (Sl.of_own (HT2.out.alloc _).own) HRR.out.arg (by have := HM.out; omega) (by have := HM.out; omega) (by omega)).mono ?_
          rintro e w9 ⟨⟨⟨v9, rfl, hs9⟩, hb9⟩, hf9⟩
          have HS9 := Hd.mk hs9
          have HF9 : Hd (Frs w.heap.size v9) := ⟨(hf9 _ rfl).mono (by have h1 := HB7.out.size; have h2 := HT2.out.only.size; simp only [World.size_alloc]; omega)⟩
          clear hf9
          obtain ⟨A9, c9, rfl, -⟩ := hs9
          have HB9 : Hd (Below w.heap.size w w9) := ⟨bstep (ex_alloc (HB7.out.trans (HT2.out.only.below HB7.out.size (fun k hk => by rintro (e | e) <;> omega))) _) hb9⟩
          clear hb9
          have HFI : Hd (norm out = urun U) := ⟨by rw [norm_urun HRR.out.arg, HU.out]⟩
          go_wp2_with fail
          go_ret2
          exact ⟨⟨HB9.out, .slice A9 (norm out).length c9, by rw [HTC.out]; rfl, fun _ => by rw [← HFI.out]; exact HS9.out, fun h => absurd HTC.out h⟩, frE HF9.out⟩
    · have HTC : Hd (cmc la lb = 2) := ⟨by unfold cmc; rw [if_pos H0.out, if_neg hw]⟩
      have hw' : (was lb == comes la) = false := by rw [beq_eq_false_iff_ne]; exact fun e => hw e.symm
      clear hw
      go_wp2_with fail
      go_ret2
      exact ⟨⟨HB3.out, .slice none 0 0, by rw [HTC.out]; rfl, fun h => by rw [HTC.out] at h; exact absurd h (by decide), fun _ => rfl⟩, frE (Frs.nil _)⟩
  · have HTC : Hd (cmc la lb = chk2 la lb) := ⟨by unfold cmc; rw [if_neg h0]⟩
    rw [errOf_ne h0]
    have H0 := Hd.mk h0
    clear h0
    generalize chk2 la lb = z at *
    go_wp2_with fail
    go_ret2
    exact ⟨⟨HB1.out, .slice none 0 0, by rw [HTC.out, errOf_ne H0.out] <;> rfl, fun h => by rw [HTC.out] at h; exact absurd h H0.out, fun _ => rfl⟩, frE (Frs.nil _)⟩
end
end Go.Proofs.YtdgdajnbkfmijaaGreatDoor
