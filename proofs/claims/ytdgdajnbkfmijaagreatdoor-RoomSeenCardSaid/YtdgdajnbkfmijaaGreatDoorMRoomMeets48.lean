/- The walk of the law RoomMeets. -/
import Derived.Test.YtdgdajnbkfmijaaGreatDoorMRoomMeets47
namespace Go.Proofs.YtdgdajnbkfmijaaGreatDoor
open Go.RowKit Go.Sort
set_option maxRecDepth 100000
/-- So many rounds. -/
noncomputable def RM.quiets : Nat → RM → RM
  | 0, R => R
  | n + 1, R => (RM.quiets n R).quiet
section
attribute [local go_sem] add_mk
/-- Units so far. -/
structure UnI (w1 wr : World) (uv : Value) (ms : List Int) : Prop where
  own : wr.ownsRow w1.heap.size 3 1 uv ms.length (ms.map fun m => .int .i64 m)
  bel : Below w1.heap.size w1 wr
  good : ∀ m ∈ ms, 1 ≤ m ∧ m ≤ 3
theorem UnI.more {w1 wr w2 w3 : World} {uv v3 : Value} {ms : List Int} {m : Int} (h : UnI w1 wr uv ms) (hm : 1 ≤ m ∧ m ≤ 3) (ho : w3.ownsRow w1.heap.size 3 1 v3 (ms.length + 1) ((ms.map fun m => Value.int .i64 m) ++ [.int .i64 m])) (hb : Below wr.heap.size wr w2) (hb3 : Below w1.heap.size w2 w3) : UnI w1 w3 v3 (ms ++ [m]) := by
  refine ⟨by rw [List.length_append, List.map_append]; exact ho, (bstep h.bel hb).trans hb3, fun x hx => ?_⟩
  rcases List.mem_append.1 hx with e | e
  · exact h.good x e
  · obtain rfl := List.mem_singleton.1 e
    exact hm
theorem int_one (m : Int) : ∀ u ∈ ([.int .i64 m] : List Value), u.oneCell' = true := by
  intro u hu
  obtain rfl := List.mem_singleton.1 hu
  rfl
set_option maxHeartbeats 16000000 in
theorem roomMeets_walk {s : U.Bs} {vu va : Value} {nu na : Nat} {us : List Int} {L : List SAY} {w : World} (hg : Hdl w) (hu : Sl w 1 vu nu (us.map fun u => .int .i64 u)) (hsl : Sl w 4 va na (says L)) (hln : L.length = na) (hok : ∀ p ∈ L, p.Ok w) (hsm : s.length ≤ maxLen) :
    Calls Tryz.prog 5 #[.string ⟨s.toArray⟩, vu, va] w fun e w' => e = .returned (.bool true) ∧ Below w.heap.size w w' := by
  have HG := Hd.mk hg
  have HSL := Hd.mk hsl
  have HLN := Hd.mk hln
  have HOK := Hd.mk hok
  have HU := Hd.mk hu
  have hul : us.length = nu := by have := hu.len; rw [List.length_map] at this; omega
  have HUL := Hd.mk hul
  obtain ⟨A, cc, rfl, -⟩ := hsl
  obtain ⟨Au, cu, rfl, -⟩ := hu
  unfold maxLen at hsm
  clear hg hln hok hul
  by_cases h1 : 1900 < s.length
  · have hi : (1900 : Int) < (s.length : Int) := by omega
    go_enter Tryz.func5, Tryz.ntmps5
    go_wp2_with fail
    go_ret
    exact ⟨rfl, Below.refl _ _⟩
  have hi1 : ¬ (1900 : Int) < (s.length : Int) := by omega
  by_cases h2 : 60 < na
  · have hi : (60 : Int) < (na : Int) := by omega
    go_enter Tryz.func5, Tryz.ntmps5
    go_wp2_with fail
    go_ret
    exact ⟨rfl, Below.refl _ _⟩
  have hi2 : ¬ (60 : Int) < (na : Int) := by omega
  by_cases h3 : nu < 1
  · have hi : (nu : Int) < 1 := by omega
    go_enter Tryz.func5, Tryz.ntmps5
    go_wp2_with fail
    go_ret
    exact ⟨rfl, Below.refl _ _⟩
  have hi3 : ¬ (nu : Int) < 1 := by omega
  by_cases h4 : 6 < nu
  · have hi : (6 : Int) < (nu : Int) := by omega
    go_enter Tryz.func5, Tryz.ntmps5
    go_wp2_with fail
    go_ret
    exact ⟨rfl, Below.refl _ _⟩
  have hi4 : ¬ (6 : Int) < (nu : Int) := by omega
  obtain ⟨rs, rest, hsp⟩ := U.sp_exists s
  have HM := Hd.mk (keepmet_calls HG.out)
  have HCT := fun W => Hd.mk (count_calls hsp W (by omega))
  have HNB : Hd (1 ≤ nu ∧ nu ≤ 6 ∧ na ≤ 60 ∧ s.length ≤ 1900) := ⟨by omega⟩
  have HSP := Hd.mk hsp
  by_cases hr : rest = []
  · have HR := Hd.mk hr
    clear hsp h1 h2 h3 h4 hr hsm
    go_enter Tryz.func5, Tryz.ntmps5
    go_wp2_with (first
      | (go_at_call 20; refine HM.out.mono ?_; rintro e w1 ⟨rfl, hb1⟩; have HB1 := Hd.mk hb1; clear hb1)
      | (go_at_call 21; refine (HCT _).out.mono ?_; rintro e w2 ⟨hb2, h2, -⟩; obtain rfl := h2 HR.out; unfold Cn.v; have HB2 := Hd.mk (bstep HB1.out hb2); clear hb2 h2))
    obtain ⟨w3, hw3⟩ : ∃ W, W = w2.alloc (.cells #[.int .i64 (cnt rs).b, .int .i64 (cnt rs).h, .int .i64 (cnt rs).r, .int .i64 (cnt rs).l] 63) := ⟨_, rfl⟩
    have HB3 : Hd (Below w.heap.size w w3) := ⟨by rw [hw3]; exact ex_alloc HB2.out _⟩
    rw [← hw3]
    clear hw3
    go_loopw [9, 10] (fun uv i wr => ∃ (k : Nat) (ms : List Int), k ≤ nu ∧ i = .int .i64 k ∧ ms.length = k ∧ UnI w3 wr uv ms) (fun _ i _ => nu - (intOf i).toNat)
    case atStart => exact ⟨0, [], by omega, rfl, rfl, World.ownsRow_nil _ _ _ _, Below.refl _ _, fun m hm => by cases hm⟩
    case round =>
      obtain ⟨k, ms, hk, rfl, hml, hI⟩ := hrel
      have HI := Hd.mk (And.intro hml hI)
      have hkb : k ≤ 6 := by have := HNB.out; omega
      obtain ⟨Aq, cq, hvq⟩ := own_form hI.own
      rw [hml] at hvq
      subst hvq
      have how := hI.own
      rw [hml] at how
      have HOW := Hd.mk how
      clear hml hI how
      by_cases hkn : k < nu
      · obtain ⟨m0, hm0⟩ : ∃ u, us[k]? = some u := ⟨_, List.getElem?_eq_getElem (by rw [HUL.out]; exact hkn)⟩
        obtain ⟨b, o, c2, hv2, hbb, c0⟩ := ((HU.out.below HB3.out).below HI.out.2.bel).one_at hkn (u := .int .i64 m0) (by rw [List.getElem?_map, hm0]; rfl)
        cases hv2
        have HPK := Hd.mk (pick_calls m0 3 (by decide) wr)
        clear hm0
        go_wp2_with (first
          | (go_at_call 22; refine HPK.out.mono ?_; rintro e w4 ⟨q, rfl, hq0, hq1, rfl⟩)
          | (at_builtin; refine append_lit' el_ints #[.int .i64 (1 + q)] HOW.out rfl rfl rfl rfl (by simp) rfl (int_one _) (by unfold maxLen; omega) (by omega) HI.out.2.bel.size ?_; intro v5 w5 hown5 hbel5 hgr5 hnew5; have HO5 := Hd.mk hown5; have HB5 := Hd.mk hbel5; clear hown5 hbel5 hgr5 hnew5))
        refine ⟨⟨k + 1, ms ++ [1 + q], by omega, by go_num, by simp [HI.out.1], ?_⟩, by simp only [intOf]; omega⟩
        have hk := HI.out.1
        subst hk
        exact HI.out.2.more ⟨by omega, by omega⟩ HO5.out (Below.refl _ _) HB5.out
      · obtain rfl : k = nu := by omega
        have HRN := Hd.mk (rnew_calls HSP.out (by have := HNB.out; omega) ((HG.out.below HB3.out).below HI.out.2.bel) (by have := Sl.of_own HI.out.2.own; rw [HI.out.1] at this; exact this))
        have HBR := Hd.mk (bstep HB3.out HI.out.2.bel)
        have HMS := Hd.mk (And.intro HI.out.1 HI.out.2.good)
        have hbr : rest = [] ∧ bl rs ≤ 2000 := ⟨HR.out, by have h := HSP.out.eq; rw [HR.out, List.append_nil] at h; have h2 := HNB.out; rw [h] at h2; have : bl rs = (U.encs rs).length := rfl; omega⟩
        have HBR2 := Hd.mk hbr
        clear hbr HI HOW HM HCT
        go_wp2_with (go_at_call 23; refine HRN.out.mono ?_; rintro e w4 ⟨hb4, -, -, -, -, h4⟩; obtain ⟨r0, rfl, hrF, hR0⟩ := h4 HBR2.out.1 HBR2.out.2 (by rw [HMS.out.1]; exact HNB.out.2.1) HMS.out.2; have HJ0 := Hd.mk (RmJ.mk hR0 rfl (bstep HBR.out hb4) (fun j hj => Nat.le_trans HBR.out.size (hrF j hj)) : RmJ w w4 r0.a _ r0); clear hb4 h4 hrF hR0)
        have HRB : Hd (RMb 0 0 (RM.new rs ms)) := ⟨by
          obtain ⟨a1, a2⟩ := RMok.new (R := rs) (us := ms) HSP.out.all HBR2.out.2 HMS.out.2
          exact ⟨a1, a2, Int.le_refl _, Int.le_refl _⟩⟩
        have HCL : Hd ((RM.new rs ms).cl.length = k) := ⟨by
          show (ms.zipIdx.map _).length = k
          rw [List.length_map, List.length_zipIdx]; exact HMS.out.1⟩
        go_loopw [13] (fun i wq => ∃ (j : Nat) (R : RM) (r : RP), j ≤ na ∧ i = .int .i64 j ∧ RmJ w wq r0.a R r ∧ RMb (j : Int) ((j : Int) * 100000) R ∧ R.cl.length = k) (fun i _ => na - (intOf i).toNat)
        case atStart => exact ⟨0, _, r0, by omega, rfl, HJ0.out, by simpa using HRB.out, HCL.out⟩
        case round =>
          obtain ⟨j, R, r, hj, rfl, hJ, hRB, hcl⟩ := hrel
          have HJ := Hd.mk hJ
          have HRK := Hd.mk (And.intro hRB hcl)
          have hjb : j ≤ 60 := by have := HNB.out; omega
          clear hJ hRB hcl HJ0 HRB HCL
          by_cases hjn : j < na
          · have hjl : j < L.length := by rw [HLN.out]; exact hjn
            obtain ⟨b, o, c', hv, hbw, c0, c1, c2, c3⟩ := (HSL.out.below HJ.out.bel).say hjn hjl
            cases hv
            have hp := HOK.out _ (List.getElem_mem hjl)
            generalize L[j] = p at *
            obtain ⟨px, py, pz, pv, q⟩ := p
            have hop := hp.op
            dsimp only at hop c0 c1 c2 c3
            have HKP := Hd.mk (kplays_calls (n := k) (what := px) (px := py) (py := pz) (v := pv) (l := q) ⟨HJ.out.rm, HRK.out.1, by omega, by omega, HRK.out.2, by have := HNB.out; omega, OpO.argR hop HJ.out.bel HJ.out.new⟩)
            rw [HJ.out.a] at HKP
            obtain ⟨Ap, cp, rfl, -⟩ := hop
            clear hp hjl
            go_wp2_with (go_at_call 24; refine HKP.out.mono ?_; rintro e w5 ⟨rfl, R', hPS, h5⟩; have HPS := Hd.mk hPS; have H5 := Hd.mk h5; clear hPS h5)
            obtain ⟨r', hJ'⟩ := HJ.out.step H5.out
            have hnb := HPS.out.ok HRK.out.1 (by rw [HRK.out.2]; have := HNB.out; omega)
            refine ⟨⟨j + 1, R', r', by omega, by go_num, hJ', hnb.1.mono (by omega) (by omega), hnb.2.trans HRK.out.2⟩, by simp only [intOf]; omega⟩
          · obtain rfl : j = na := by omega
            go_wp2_with fail
            go_loopw [14] (fun i wq => ∃ (m : Nat) (r : RP), m ≤ 3 ∧ i = .int .i64 m ∧ RmJ w wq r0.a (RM.quiets m R) r ∧ RMb 100 ((m : Int) * 100000 + 10000000) (RM.quiets m R) ∧ (RM.quiets m R).cl.length = k) (fun i _ => 3 - (intOf i).toNat)
            case atStart => exact ⟨0, r, by omega, rfl, HJ.out, HRK.out.1.mono (by omega) (by omega), HRK.out.2⟩
            case round =>
              obtain ⟨m, r2, hm, rfl, hJ2, hRB2, hcl2⟩ := hrel
              have HJ2 := Hd.mk hJ2
              have HRK2 := Hd.mk (And.intro hRB2 hcl2)
              clear hJ2 hRB2 hcl2
              by_cases hm3 : m < 3
              · have hq := rmquiet_calls HJ2.out.rm HRK2.out.1 (by decide) (by omega) (by rw [HRK2.out.2]; have := HNB.out; omega)
                rw [HJ2.out.a] at hq
                have HQ := Hd.mk hq
                clear hq
                go_wp2_with (go_at_call 32; refine HQ.out.mono ?_; rintro e w6 ⟨rfl, h6⟩; have H6 := Hd.mk h6; clear h6)
                obtain ⟨r3, hJ3⟩ := HJ2.out.step H6.out
                refine ⟨⟨m + 1, r3, by omega, by go_num, hJ3, HRK2.out.1.quiet.mono (by decide) (by rw [HRK2.out.2]; have := HNB.out; omega), HRK2.out.1.ok.quiet.2.2.1.trans HRK2.out.2⟩, by simp only [intOf]; omega⟩
              · obtain rfl : m = 3 := by omega
                have HME : Hd ((RM.quiets 3 R).Met) := ⟨HRK.out.1.ok.meets HRK.out.1.n8⟩
                obtain ⟨Q, hQ⟩ : ∃ Q, Q = RM.quiets 3 R := ⟨_, rfl⟩
                rw [← hQ] at HME HJ2 HRK2
                clear hQ
                go_wp2_with fail
                go_loopw [15] (fun i wq => ∃ (m : Nat), m ≤ k ∧ i = .int .i64 m ∧ RmJ w wq r0.a Q r2) (fun i _ => k - (intOf i).toNat)
                case atStart => exact ⟨0, by omega, rfl, HJ2.out⟩
                case round =>
                  obtain ⟨m, hm, rfl, hJ3⟩ := hrel
                  have HJ3 := Hd.mk hJ3
                  have hk6 : k ≤ 6 := by have := HNB.out; omega
                  clear hJ3
                  by_cases hmk : m < k
                  · obtain ⟨C, hC⟩ : ∃ C, Q.cl[m]? = some C := ⟨_, List.getElem?_eq_getElem (by rw [HRK2.out.2]; exact hmk)⟩
                    obtain ⟨c, hc, -⟩ := HJ3.out.rm.get hC
                    obtain ⟨e1, e2, e3, e4⟩ := HME.out.2 m C hC
                    have hcc := rmclient_calls HJ3.out.rm hc
                    rw [HJ3.out.a] at hcc
                    have HCC := Hd.mk hcc
                    have HX : Hd (∀ W, Below wr.heap.size wr W → Calls Tryz.prog 30 #[.pointer (some ⟨c.a, 0, none⟩)] W (fun e w' => e = .returned (.bool false) ∧ w' = W) ∧ Calls Tryz.prog 31 #[.pointer (some ⟨c.a, 0, none⟩)] W (fun e w' => e = .returned (.string ⟨Q.srv.doc.toArray⟩) ∧ Below W.heap.size W w') ∧ Calls Tryz.prog 26 #[.pointer (some ⟨r0.a, 0, none⟩)] W (fun e w' => e = .returned (.string ⟨Q.srv.doc.toArray⟩) ∧ Below W.heap.size W w') ∧ Calls Tryz.prog 29 #[.pointer (some ⟨c.a, 0, none⟩)] W (fun e w' => e = .returned (.string ⟨Q.srv.doc.toArray⟩) ∧ w' = W) ∧ Calls Tryz.prog 28 #[.pointer (some ⟨c.a, 0, none⟩)] W (fun e w' => e = .returned (.int .i64 (Q.srv.log.length : Int)) ∧ w' = W) ∧ Calls Tryz.prog 25 #[.pointer (some ⟨r0.a, 0, none⟩)] W (fun e w' => e = .returned (.int .i64 (Q.srv.log.length : Int)) ∧ w' = W)) := ⟨fun W hb => by
                      have hR := HJ3.out.rm.below hb
                      have hcr := hR.cli m c C hc hC
                      have t1 := cpend_calls hcr
                      have t2 := ctext_calls hcr
                      have t3 := rmtext_calls hR
                      have t4 := cseen_calls hcr
                      have t5 := cwho_rev hcr
                      have t6 := rmrev_calls hR
                      rw [e1] at t1
                      rw [e4] at t2
                      rw [HJ3.out.a] at t3 t6
                      rw [e3] at t4
                      rw [e2] at t5
                      exact ⟨t1, t2, t3, t4, t5, t6⟩⟩
                    clear hC hc e1 e2 e3 e4 hcc
                    have HB0 : Hd (Below wr.heap.size wr wr) := ⟨Below.refl _ _⟩
                    go_wp2_with (first
                      | (go_at_call 27; refine HCC.out.mono ?_; rintro e w7 ⟨rfl, rfl⟩)
                      | (go_at_call 30; refine (HX.out _ HB0.out).1.mono ?_; rintro e w7 ⟨rfl, rfl⟩)
                      | (go_at_call 31; refine (HX.out _ HB0.out).2.1.mono ?_; rintro e w8 ⟨rfl, hb8⟩; have HB8 := Hd.mk hb8; clear hb8)
                      | (go_at_call 26; refine (HX.out _ HB9.out).2.2.1.mono ?_; rintro e w10 ⟨rfl, hb10⟩; have HB10 := Hd.mk (bstep HB9.out hb10); clear hb10)
                      | (go_at_call 26; refine (HX.out _ HB8.out).2.2.1.mono ?_; rintro e w9 ⟨rfl, hb9⟩; have HB9 := Hd.mk (bstep HB8.out hb9); clear hb9)
                      | (go_at_call 29; refine (HX.out _ HB9.out).2.2.2.1.mono ?_; rintro e w11 ⟨rfl, rfl⟩)
                      | (go_at_call 28; refine (HX.out _ HB10.out).2.2.2.2.1.mono ?_; rintro e w11 ⟨rfl, rfl⟩)
                      | (go_at_call 25; refine (HX.out _ HB10.out).2.2.2.2.2.mono ?_; rintro e w11 ⟨rfl, rfl⟩))
                    refine ⟨⟨_, _, _, _, _, _, _, _, _, _, _, _, _, _, _, _, _, _, _, _, _, _, _, _, _, _, _, _, _, _, _, _, _, _, _, _, _, _, _, _, _, _, _, ⟨m + 1, by omega, by go_num, HJ3.out.below HB10.out⟩, rfl⟩, ?_⟩
                    show k - (intOf (.int .i64 ((m : Int) + 1))).toNat < k - (intOf (.int .i64 (m : Int))).toNat
                    simp only [intOf]
                    omega
                  · obtain rfl : m = k := by omega
                    have hmn := rmany_calls HJ3.out.rm
                    rw [HJ3.out.a, HME.out.1, List.length_nil] at hmn
                    have HMN := Hd.mk hmn
                    clear hmn
                    go_wp2_with (go_at_call 33; refine HMN.out.mono ?_; rintro e w7 ⟨rfl, rfl⟩)
                    go_ret
                    exact ⟨rfl, HJ3.out.bel⟩
  · have HR := Hd.mk hr
    clear hsp h1 h2 h3 h4 hr hsm
    go_enter Tryz.func5, Tryz.ntmps5
    go_wp2_with (first
      | (go_at_call 20; refine HM.out.mono ?_; rintro e w1 ⟨rfl, hb1⟩; have HB1 := Hd.mk hb1; clear hb1)
      | (go_at_call 21; refine (HCT _).out.mono ?_; rintro e w2 ⟨hb2, -, h2⟩; obtain ⟨g, rfl, -⟩ := h2 HR.out; unfold atV Cn.v; have HB2 := Hd.mk (bstep HB1.out hb2); clear hb2 h2))
    go_ret
    exact ⟨rfl, ex_alloc HB2.out _⟩
end
end Go.Proofs.YtdgdajnbkfmijaaGreatDoor
