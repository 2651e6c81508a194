/- The walk of the law ShapePlays. -/
import Derived.Test.YtgokmldngnmmhaaDoorMShapePlays48
import Derived.Test.YtgokmldngnmmhaaDoorMShapePlays45
import Derived.Test.YtgokmldngnmmhaaDoorMShapePlays22
import Derived.Test.YtgokmldngnmmhaaDoorMShapePlays47
import Derived.Test.YtgokmldngnmmhaaDoorMShapePlays42
import Derived.Test.YtgokmldngnmmhaaDoorMShapePlays25
import Derived.Test.YtgokmldngnmmhaaDoorMShapePlays43
import Derived.Test.YtgokmldngnmmhaaDoorMShapePlays12
namespace Go.Proofs.YtgokmldngnmmhaaDoor
open Go.RowKit Go.Sort
set_option maxRecDepth 100000
theorem plen_mul {l : List PT} {m : Nat} (h : ∀ p ∈ l, p.put.length ≤ m) : plen l ≤ m * l.length := by
  induction l with
  | nil => simp [plen]
  | cons p l ih =>
    have h1 := h p (by simp)
    have h2 := ih fun q hq => h q (by simp [hq])
    rw [plen, List.length_cons, Nat.mul_succ]
    omega
theorem addr_add (b o j : Nat) : (⟨b, o, none⟩ : Addr).add j = ⟨b, o + j, none⟩ := by unfold Addr.add; split <;> simp_all
section
attribute [local go_sem] Cn.v_eq
set_option maxHeartbeats 16000000 in
theorem shapePlays_walk {s : U.Bs} {unit : Int} {L : List (Value × List PT)} {v : Value} {n : Nat} {w : World} (hg : Hdl w) (hops : OpsL w v n L) (hsm : s.length ≤ maxLen) :
    Calls Tryd.prog 5 #[.int .i64 unit, .string ⟨s.toArray⟩, v] w fun e w' => e = .returned (.bool true) ∧ Below w.heap.size w w' := by
  have HG := Hd.mk hg
  have HOPS := Hd.mk hops
  obtain ⟨A, cc, rfl⟩ : ∃ A c, v = .slice A n c := by obtain ⟨⟨A, c, e, -⟩, -⟩ := hops; exact ⟨A, c, e⟩
  unfold maxLen at hsm
  clear hg hops
  by_cases h1 : 400 < s.length
  · have hi : (400 : Int) < (s.length : Int) := by omega
    go_enter Tryd.func5, Tryd.ntmps5
    go_wp2_with fail
    go_ret
    exact ⟨rfl, Below.refl _ _⟩
  by_cases h2 : 12 < n
  · have hi : ¬ ((400 : Int) < (s.length : Int)) := by omega
    have hj : (12 : Int) < (n : Int) := by omega
    go_enter Tryd.func5, Tryd.ntmps5
    go_wp2_with fail
    go_ret
    exact ⟨rfl, Below.refl _ _⟩
  have hi : ¬ ((400 : Int) < (s.length : Int)) := by omega
  have hj : ¬ ((12 : Int) < (n : Int)) := by omega
  obtain ⟨rs, rest, hsp⟩ := U.sp_exists s
  have HNEW := Hd.mk (shnew_calls hsp (u := unit) (by omega) w)
  have HC := fun w1 => Hd.mk (rcount_calls hsp w1 (by omega))
  by_cases hu : 1 ≤ unit ∧ unit ≤ 3
  · have HU := Hd.mk hu
    have hu1 : ¬ unit < 1 := by omega
    have hu2 : ¬ 3 < unit := by omega
    clear hu
    by_cases hr : rest = []
    · subst hr
      obtain rfl : s = U.encs rs := by have := hsp.eq; simpa using this
      have HBL : Hd (bl rs ≤ 8000) := ⟨by have : (U.encs rs).length = bl rs := rfl; omega⟩
      have HN12 : Hd (n ≤ 12) := ⟨by omega⟩
      clear hsp h1 h2
      go_enter Tryd.func5, Tryd.ntmps5
      go_wp2_with (first
        | (go_at_call 32; refine HNEW.out.mono ?_; rintro e w1 ⟨hb1, -, -, -, h5⟩; obtain ⟨f, rfl, hf, hsf⟩ := h5 HU.out rfl HBL.out; have HB1 := Hd.mk hb1; have HF := Hd.mk hf; have HSF := Hd.mk hsf; clear hb1 h5 hf hsf)
        | (go_at_call 18; refine (HC _).out.mono ?_; rintro e w2 ⟨hb2, he, -⟩; obtain rfl := he rfl; have hx2 := ex_alloc (ex_alloc hb2 (.cells #[.int .i64 (cnt rs).b, .int .i64 (cnt rs).h, .int .i64 (cnt rs).r, .int .i64 (cnt rs).l] 36)) (.cells #[.int .i64 0, .int .i64 (-1)] 25); have HB2 := Hd.mk (bstep HB1.out hx2); have HSF2 := Hd.mk (HSF.out.below hx2); clear hb2 hx2 he; unfold fltV))
      go_loopg [1, 11] (n + 1) (fun gk sv iv wr => ∃ (i : Nat) (R2 : List Int), sv = .string ⟨(U.encs R2).toArray⟩ ∧ iv = .int .i64 (i : Int) ∧ i + gk = n + 1 ∧ Below w.heap.size w wr ∧ ShS wr f unit R2)
      case atStart => exact ⟨0, rs, rfl, rfl, by omega, HB2.out, HSF2.out⟩
      case round =>
        obtain ⟨i, R2, rfl, rfl, hi9, hbel, hS⟩ := hrel
        have HGK := Hd.mk hi9
        have HBQ := Hd.mk hbel
        have HSQ := Hd.mk hS
        clear HB1 HB2 HSF HSF2 HC HNEW hi9 hi hsm
        by_cases hin : i ≤ n
        · have hi2 : (i : Int) ≤ (n : Int) := by omega
          cases i with
          | zero =>
            clear hbel hS
            have HCR := fun w1 => Hd.mk (rcount_calls (U.sp_encs HSQ.out.all) w1 (by have h1 : (U.encs R2).length = bl R2 := rfl; have h2 := HSQ.out.sz; omega))
            go_wp2_with (go_at_call 18; refine (HCR _).out.mono ?_; rintro e w6 ⟨hb6, he, -⟩; obtain rfl := he rfl; have HB6 := Hd.mk (bstep HBQ.out hb6); have HS6 := Hd.mk (HSQ.out.below hb6); clear hb6 he; unfold fltV)
            have HCB : Hd (CnBlk ((w6.alloc (.cells #[.int .i64 (cnt R2).b, .int .i64 (cnt R2).h, .int .i64 (cnt R2).r, .int .i64 (cnt R2).l] 36)).alloc (.cells #[.int .i64 0, .int .i64 (-1)] 25)) w6.heap.size (cnt R2)) := ⟨CnBlk.below (heap_alloc_new w6 _) (ex_alloc (Below.refl _ _) _) (by simp only [World.size_alloc]; omega)⟩
            have hx7 : Below w6.heap.size w6 ((w6.alloc (.cells #[.int .i64 (cnt R2).b, .int .i64 (cnt R2).h, .int .i64 (cnt R2).r, .int .i64 (cnt R2).l] 36)).alloc (.cells #[.int .i64 0, .int .i64 (-1)] 25)) := ex_alloc (ex_alloc (Below.refl _ _) _) _
            have HB7 := Hd.mk (bstep HB6.out hx7)
            have HS7 := Hd.mk (HS6.out.below hx7)
            clear hx7
            generalize (w6.alloc (.cells #[.int .i64 (cnt R2).b, .int .i64 (cnt R2).h, .int .i64 (cnt R2).r, .int .i64 (cnt R2).l] 36)).alloc (.cells #[.int .i64 0, .int .i64 (-1)] 25) = wq at HCB HB7 HS7 ⊢
            generalize w6.heap.size = gq at HCB ⊢
            obtain ⟨q0, q1, q2, q3⟩ := HCB.out.cells
            have kq0 := cell_regrown q0
            have kq1 := cell_regrown q1
            have kq2 := cell_regrown q2
            have kq3 := cell_regrown q3
            have hT : ∀ d os, Calls Tryd.prog 36 #[.pointer (some ⟨f, 0, none⟩)] (grow (redrawn wq d) os) fun e w'' => e = .returned (.string ⟨(U.encs R2).toArray⟩) ∧ ∃ p : Regrown, w'' = grow (redrawn wq p.d) p.os := fun d os => Calls.regrown_of (shtext_calls (HS7.out.below (below_regrown wq d os)))
            have hL : ∀ d os, Calls Tryd.prog 37 #[.pointer (some ⟨f, 0, none⟩)] (grow (redrawn wq d) os) fun e w'' => e = .returned (.int .i64 ((cnt R2).of unit)) ∧ ∃ p : Regrown, w'' = grow (redrawn wq p.d) p.os := fun d os => Calls.regrown_of (len_calls (HS7.out.below (below_regrown wq d os)))
            have hI : ∀ d os, Calls Tryd.prog 38 #[.agg #[.int .i64 (cnt R2).b, .int .i64 (cnt R2).h, .int .i64 (cnt R2).r, .int .i64 (cnt R2).l], .int .i64 unit] (grow (redrawn wq d) os) fun e w'' => e = .returned (.int .i64 ((cnt R2).of unit)) ∧ ∃ p : Regrown, w'' = grow (redrawn wq p.d) p.os := fun d os => Calls.regrown_of (by have := refIn_calls (cnt R2) unit (grow (redrawn wq d) os); rw [Cn.v_eq] at this; exact this)
            have hU : ∀ d os, Calls Tryd.prog 39 #[.pointer (some ⟨f, 0, none⟩)] (grow (redrawn wq d) os) fun e w'' => e = .returned (.int .i64 unit) ∧ ∃ p : Regrown, w'' = grow (redrawn wq p.d) p.os := fun d os => by
              refine (unit_calls (HS7.out.below (below_regrown wq d os))).mono ?_
              rintro e w2 ⟨rfl, rfl⟩
              exact ⟨rfl, ⟨d, os⟩, rfl⟩
            refine wp_region_quiet_below (by kernel_rfl) (by kernel_rfl) ?_
            repeat (quiet_step (first | (go_at_call 36; exact hT _ _) | (go_at_call 37; exact hL _ _) | (go_at_call 38; exact hI _ _) | (go_at_call 39; exact hU _ _)))
            refine wpQuiet_nil ?_
            rintro _ ⟨⟨dq, oq⟩, rfl⟩
            have HBz := Hd.mk (bstep HB7.out (below_regrown wq dq oq))
            have HSz := Hd.mk (HS7.out.below (below_regrown wq dq oq))
            generalize grow (redrawn wq dq) oq = wz at HBz HSz ⊢
            clear hT hL hI hU kq0 kq1 kq2 kq3 q0 q1 q2 q3 HCB HB6 HS6 HB7 HS7 HCR
            go_wp2_with fail
            go_roundg (n + 1 - (0 + 1))
            case rel => exact ⟨0 + 1, R2, rfl, by simp, by omega, HBz.out, HSz.out⟩
            case measure => have := HGK.out; omega
          | succ j =>
            have hjn : j < n := by omega
            have hs1 := HOPS.out.1.below hbel
            obtain ⟨b, o, rfl⟩ := hs1.addr1 (by omega)
            obtain ⟨ad, c9, u9, hv9, hbw, hu9, hc9⟩ := hs1.at_ (k := j) hjn
            cases hv9
            have hjL : j < L.length := by have := HOPS.out.2.1; omega
            obtain ⟨q, hq⟩ : ∃ q, q = L[j] := ⟨_, rfl⟩
            obtain rfl : u9 = q.1 := by rw [List.getElem?_map, List.getElem?_eq_getElem hjL] at hu9; rw [hq]; simpa using hu9.symm
            have hx : q ∈ L := by rw [hq]; exact List.getElem_mem hjL
            obtain ⟨hsq, hin9⟩ := HOPS.out.2.2 q hx
            have x0 : wr.cell? ⟨b, o + j, none⟩ = some q.1 := by rw [← addr_add]; exact hc9
            dsimp only at hbw
            clear hq hx hc9 hu9
            obtain ⟨vq, lq⟩ := q
            dsimp only at hsq hin9 x0
            have HIN := Hd.mk hin9
            have HSQ0 := Hd.mk hsq
            obtain ⟨nq9, hnq⟩ : ∃ m, m = lq.length := ⟨_, rfl⟩
            rw [← hnq] at HSQ0
            have HNQ := Hd.mk hnq
            obtain ⟨Aq, cq, rfl⟩ : ∃ A c, vq = .slice A nq9 c := by rw [hnq]; obtain ⟨A, c, e, -⟩ := hsq; exact ⟨A, c, e⟩
            have y0 : (0 : Int) ≤ (j : Int) := by omega
            have y1 : (j : Int) < (n : Int) := by omega
            have y2 : IntKind.i64.wrap ((j : Int) + 1 - 1) = (j : Int) := by rw [IntKind.wrap_i64] <;> omega
            have y3 : (0 : Int) < (j : Int) + 1 := by omega
            have y4 : wrap64 (j : Int) = (j : Int) := by unfold wrap64; omega
            have HJ : Hd (j < n ∧ n ≤ 40) := ⟨by omega⟩
            have HSR := Hd.mk (HSQ0.out.below hbel)
            clear hbel hS hs1 hsq hin9 hnq hin hjn hj
            by_cases hbig : 100 < nq9
            · go_wp2_with (go_at_call 33; refine (few_big HSR.out hbig).mono ?_; rintro e w3 ⟨rfl, rfl⟩)
              go_ret
              exact ⟨rfl, HBQ.out⟩
            have HFW := Hd.mk (few_calls HSR.out (by omega) (fun p hp => (HIN.out p hp).s))
            go_wp2_with fail
            refine HFW.out.mono ?_
            rintro e w3 ⟨hfe, hb3⟩
            have HB3 := Hd.mk (bstep HBQ.out hb3)
            have HS3 := Hd.mk (HSQ.out.below hb3)
            have HSR3 := Hd.mk (HSR.out.below hb3)
            have x1 : w3.cell? ⟨b, o + j, none⟩ = some (.slice Aq nq9 cq) := by rw [← x0]; exact hb3.cell hbw
            have hbw3 : b < w3.heap.size := Nat.lt_of_lt_of_le hbw hb3.size
            clear x0 hb3 HFW
            rcases hfe with ⟨hfew, rfl⟩ | ⟨-, rfl⟩
            · by_cases h40 : 40 < nq9
              · have z1 : (40 : Int) < (nq9 : Int) := by omega
                go_wp2_with fail
                go_ret
                exact ⟨rfl, HB3.out⟩
              by_cases h2k : 2000 < bl R2
              · have z1 : ¬ ((40 : Int) < (nq9 : Int)) := by omega
                have z2 : (2000 : Int) < ((U.encs R2).length : Int) := by show (2000 : Int) < (bl R2 : Int); omega
                go_wp2_with fail
                go_ret
                exact ⟨rfl, HB3.out⟩
              have z1 : ¬ ((40 : Int) < (nq9 : Int)) := by omega
              have z2 : ¬ ((2000 : Int) < ((U.encs R2).length : Int)) := by show ¬ ((2000 : Int) < (bl R2 : Int)); omega
              have HFEW := Hd.mk hfew
              have H2K : Hd (bl R2 ≤ 2000 ∧ nq9 ≤ 40) := ⟨by omega⟩
              clear h40 h2k hfew hbig
              have HP := Hd.mk (show ∀ p ∈ lq, p.put.length ≤ 300 from fun p hp => (HFEW.out p hp).1)
              have HP2 : Hd (∀ p ∈ lq, p.put.length ≤ 35184372087808) := ⟨fun p hp => by have := HP.out p hp; omega⟩
              have HPL : Hd (plen lq ≤ 12000) := ⟨by have h1 := plen_mul HP.out; have h2 := HNQ.out; have h3 := H2K.out.2; rw [← h2] at h1; omega⟩
              go_wp2_with fail
              refine (rturn_calls (u := unit) (tu := 1) HSR3.out HP2.out HSQ.out.all HSQ.out.sz (by have := H2K.out; omega)).mono ?_
              rintro e w4 ⟨hb4, v4, o4, k4, rfl, hs4, hr4⟩
              have HB4 := Hd.mk (bstep HB3.out hb4)
              have HS4 := Hd.mk (HS3.out.below hb4)
              have HSR4 := Hd.mk (HSR3.out.below hb4)
              have HT := Hd.mk hr4
              have HO4 := Hd.mk hs4
              obtain ⟨A4, c4, rfl, -⟩ := hs4
              have x2 : w4.cell? ⟨b, o + j, none⟩ = some (.slice Aq nq9 cq) := by rw [← x1]; exact hb4.cell hbw3
              have hbw4 : b < w4.heap.size := Nat.lt_of_lt_of_le hbw3 hb4.size
              clear x1 hbw3 hb4 hr4
              by_cases hk4 : k4 = 0
              · subst hk4
                obtain ⟨⟨X, hX⟩, hpo, hlo, hgo, -⟩ := tnR_opr HU.out HT.out
                have HX := Hd.mk hX
                have HPO : Hd (plen o4 ≤ 12000) := ⟨by have := HPL.out; omega⟩
                clear hX hpo hlo hgo
                go_wp2_with fail
                refine (rapply_calls HO4.out (fun p hp => by have h1 := plen_mem' hp; have h2 := HPO.out; omega) (by have := HPO.out; omega) (by have h1 : (U.encs R2).length = bl R2 := rfl; have h2 := H2K.out.1; omega)).mono ?_
                rintro e w5 ⟨rfl, hb5⟩
                obtain ⟨a1, a2⟩ := HX.out.apply HSQ.out.all
                rw [a1, a2]
                have HB5 := Hd.mk (bstep HB4.out hb5)
                have HS5 := Hd.mk (HS4.out.below hb5)
                have HSR5 := Hd.mk (HSR4.out.below hb5)
                have x3 : w5.cell? ⟨b, o + j, none⟩ = some (.slice Aq nq9 cq) := by rw [← x2]; exact hb5.cell hbw4
                have hbw5 : b < w5.heap.size := Nat.lt_of_lt_of_le hbw4 hb5.size
                have HR3 := Hd.mk (rap_all HX.out.allP HSQ.out.all)
                have HAP := Hd.mk a2
                obtain ⟨R3, hR3⟩ : ∃ x, x = rap X R2 := ⟨_, rfl⟩
                rw [← hR3] at HR3 HAP ⊢
                clear x2 hbw4 hb5 a1 a2 hR3
                have HAPP := Hd.mk (shap_calls HS5.out (HG.out.below HB5.out) HSR5.out (by have := HPL.out; omega) (by have := H2K.out; omega))
                have HWH : ∀ (e : Ending) (w6 : World), ShAll f unit R2 lq w5 e w6 → Below w.heap.size w w6 ∧ ((8000 < bl R3 ∧ e = .returned (errno 12) ∧ ShS w6 f unit R2) ∨ (bl R3 ≤ 8000 ∧ e = .returned .nilIface ∧ ShS w6 f unit R3)) := by
                  rintro e w6 ⟨ho, h6⟩
                  refine ⟨HB5.out.trans (ho.below HB5.out.size (fun j hj e => by have := HF.out; omega)), ?_⟩
                  rcases h6 with ⟨ke, hke, -, -, hkt⟩ | ⟨O, X', hX', -, -, htu, -, hrest⟩
                  · exact absurd (hkt _ _ HT.out).symm hke
                  · obtain ⟨rfl, -⟩ := htu _ _ HT.out
                    have e1 : rap X' R2 = R3 := encs_inj (rap_all hX'.allP HSQ.out.all) HR3.out (by rw [← (hX'.apply HSQ.out.all).2, HAP.out])
                    rw [e1] at hrest
                    exact hrest
                by_cases hov : 8000 < bl R3
                · have z3 : (8000 : Int) < ((U.encs R3).length : Int) := by show (8000 : Int) < (bl R3 : Int); omega
                  go_wp2_with fail
                  refine HAPP.out.mono ?_
                  rintro e w6 h6
                  obtain ⟨hb6, h7⟩ := HWH e w6 h6
                  obtain ⟨-, rfl, hs6⟩ := h7.resolve_right (fun h => by have := h.1; omega)
                  have HB6' := Hd.mk hb6
                  have HS6' := Hd.mk hs6
                  clear h6 h7 hb6 hs6 HWH hov x3 hbw5
                  unfold errno
                  go_wp2_with fail
                  refine (bare_true (.no 12) (HG.out.below HB6'.out)).mono ?_
                  rintro e w7 ⟨rfl, hb7⟩
                  have HBQ := Hd.mk (bstep HB6'.out hb7)
                  have HSQ := Hd.mk (HS6'.out.below hb7)
                  clear hb7
                  have HCR := fun w1 => Hd.mk (rcount_calls (U.sp_encs HSQ.out.all) w1 (by have h1 : (U.encs R2).length = bl R2 := rfl; have h2 := HSQ.out.sz; omega))
                  go_wp2_with (go_at_call 18; refine (HCR _).out.mono ?_; rintro e w6 ⟨hb6, he, -⟩; obtain rfl := he rfl; have HB6 := Hd.mk (bstep HBQ.out hb6); have HS6 := Hd.mk (HSQ.out.below hb6); clear hb6 he; unfold fltV)
                  have HCB : Hd (CnBlk ((w6.alloc (.cells #[.int .i64 (cnt R2).b, .int .i64 (cnt R2).h, .int .i64 (cnt R2).r, .int .i64 (cnt R2).l] 36)).alloc (.cells #[.int .i64 0, .int .i64 (-1)] 25)) w6.heap.size (cnt R2)) := ⟨CnBlk.below (heap_alloc_new w6 _) (ex_alloc (Below.refl _ _) _) (by simp only [World.size_alloc]; omega)⟩
                  have hx7 : Below w6.heap.size w6 ((w6.alloc (.cells #[.int .i64 (cnt R2).b, .int .i64 (cnt R2).h, .int .i64 (cnt R2).r, .int .i64 (cnt R2).l] 36)).alloc (.cells #[.int .i64 0, .int .i64 (-1)] 25)) := ex_alloc (ex_alloc (Below.refl _ _) _) _
                  have HB7 := Hd.mk (bstep HB6.out hx7)
                  have HS7 := Hd.mk (HS6.out.below hx7)
                  clear hx7
                  generalize (w6.alloc (.cells #[.int .i64 (cnt R2).b, .int .i64 (cnt R2).h, .int .i64 (cnt R2).r, .int .i64 (cnt R2).l] 36)).alloc (.cells #[.int .i64 0, .int .i64 (-1)] 25) = wq at HCB HB7 HS7 ⊢
                  generalize w6.heap.size = gq at HCB ⊢
                  obtain ⟨q0, q1, q2, q3⟩ := HCB.out.cells
                  have kq0 := cell_regrown q0
                  have kq1 := cell_regrown q1
                  have kq2 := cell_regrown q2
                  have kq3 := cell_regrown q3
                  have hT : ∀ d os, Calls Tryd.prog 36 #[.pointer (some ⟨f, 0, none⟩)] (grow (redrawn wq d) os) fun e w'' => e = .returned (.string ⟨(U.encs R2).toArray⟩) ∧ ∃ p : Regrown, w'' = grow (redrawn wq p.d) p.os := fun d os => Calls.regrown_of (shtext_calls (HS7.out.below (below_regrown wq d os)))
                  have hL : ∀ d os, Calls Tryd.prog 37 #[.pointer (some ⟨f, 0, none⟩)] (grow (redrawn wq d) os) fun e w'' => e = .returned (.int .i64 ((cnt R2).of unit)) ∧ ∃ p : Regrown, w'' = grow (redrawn wq p.d) p.os := fun d os => Calls.regrown_of (len_calls (HS7.out.below (below_regrown wq d os)))
                  have hI : ∀ d os, Calls Tryd.prog 38 #[.agg #[.int .i64 (cnt R2).b, .int .i64 (cnt R2).h, .int .i64 (cnt R2).r, .int .i64 (cnt R2).l], .int .i64 unit] (grow (redrawn wq d) os) fun e w'' => e = .returned (.int .i64 ((cnt R2).of unit)) ∧ ∃ p : Regrown, w'' = grow (redrawn wq p.d) p.os := fun d os => Calls.regrown_of (by have := refIn_calls (cnt R2) unit (grow (redrawn wq d) os); rw [Cn.v_eq] at this; exact this)
                  have hU : ∀ d os, Calls Tryd.prog 39 #[.pointer (some ⟨f, 0, none⟩)] (grow (redrawn wq d) os) fun e w'' => e = .returned (.int .i64 unit) ∧ ∃ p : Regrown, w'' = grow (redrawn wq p.d) p.os := fun d os => by
                    refine (unit_calls (HS7.out.below (below_regrown wq d os))).mono ?_
                    rintro e w2 ⟨rfl, rfl⟩
                    exact ⟨rfl, ⟨d, os⟩, rfl⟩
                  refine wp_region_quiet_below (by kernel_rfl) (by kernel_rfl) ?_
                  repeat (quiet_step (first | (go_at_call 36; exact hT _ _) | (go_at_call 37; exact hL _ _) | (go_at_call 38; exact hI _ _) | (go_at_call 39; exact hU _ _)))
                  refine wpQuiet_nil ?_
                  rintro _ ⟨⟨dq, oq⟩, rfl⟩
                  have HBz := Hd.mk (bstep HB7.out (below_regrown wq dq oq))
                  have HSz := Hd.mk (HS7.out.below (below_regrown wq dq oq))
                  generalize grow (redrawn wq dq) oq = wz at HBz HSz ⊢
                  clear hT hL hI hU kq0 kq1 kq2 kq3 q0 q1 q2 q3 HCB HB6 HS6 HB7 HS7 HCR
                  go_wp2_with fail
                  go_roundg (n + 1 - (j + 1 + 1))
                  case rel => exact ⟨j + 1 + 1, R2, rfl, (by have hwj : wrap64 ((j : Int) + 1 + 1) = (j : Int) + 1 + 1 := (by have := HJ.out; unfold wrap64; omega); simp [hwj]), by omega, HBz.out, HSz.out⟩
                  case measure => have := HGK.out; omega
                · have z3 : ¬ ((8000 : Int) < ((U.encs R3).length : Int)) := by show ¬ ((8000 : Int) < (bl R3 : Int)); omega
                  go_wp2_with fail
                  refine HAPP.out.mono ?_
                  rintro e w6 h6
                  obtain ⟨hb6, h7⟩ := HWH e w6 h6
                  obtain ⟨-, rfl, hs6⟩ := h7.resolve_left (fun h => by have := h.1; omega)
                  have HB6' := Hd.mk hb6
                  have HS6' := Hd.mk hs6
                  clear h6 h7 hb6 hs6 HWH hov x3 hbw5
                  go_wp2_with fail
                  refine (bare_true .nil (HG.out.below HB6'.out)).mono ?_
                  rintro e w7 ⟨rfl, hb7⟩
                  have HBQ := Hd.mk (bstep HB6'.out hb7)
                  have HSQ := Hd.mk (HS6'.out.below hb7)
                  clear hb7
                  have HCR := fun w1 => Hd.mk (rcount_calls (U.sp_encs HSQ.out.all) w1 (by have h1 : (U.encs R3).length = bl R3 := rfl; have h2 := HSQ.out.sz; omega))
                  go_wp2_with (go_at_call 18; refine (HCR _).out.mono ?_; rintro e w6 ⟨hb6, he, -⟩; obtain rfl := he rfl; have HB6 := Hd.mk (bstep HBQ.out hb6); have HS6 := Hd.mk (HSQ.out.below hb6); clear hb6 he; unfold fltV)
                  have HCB : Hd (CnBlk ((w6.alloc (.cells #[.int .i64 (cnt R3).b, .int .i64 (cnt R3).h, .int .i64 (cnt R3).r, .int .i64 (cnt R3).l] 36)).alloc (.cells #[.int .i64 0, .int .i64 (-1)] 25)) w6.heap.size (cnt R3)) := ⟨CnBlk.below (heap_alloc_new w6 _) (ex_alloc (Below.refl _ _) _) (by simp only [World.size_alloc]; omega)⟩
                  have hx7 : Below w6.heap.size w6 ((w6.alloc (.cells #[.int .i64 (cnt R3).b, .int .i64 (cnt R3).h, .int .i64 (cnt R3).r, .int .i64 (cnt R3).l] 36)).alloc (.cells #[.int .i64 0, .int .i64 (-1)] 25)) := ex_alloc (ex_alloc (Below.refl _ _) _) _
                  have HB7 := Hd.mk (bstep HB6.out hx7)
                  have HS7 := Hd.mk (HS6.out.below hx7)
                  clear hx7
                  generalize (w6.alloc (.cells #[.int .i64 (cnt R3).b, .int .i64 (cnt R3).h, .int .i64 (cnt R3).r, .int .i64 (cnt R3).l] 36)).alloc (.cells #[.int .i64 0, .int .i64 (-1)] 25) = wq at HCB HB7 HS7 ⊢
                  generalize w6.heap.size = gq at HCB ⊢
                  obtain ⟨q0, q1, q2, q3⟩ := HCB.out.cells
                  have kq0 := cell_regrown q0
                  have kq1 := cell_regrown q1
                  have kq2 := cell_regrown q2
                  have kq3 := cell_regrown q3
                  have hT : ∀ d os, Calls Tryd.prog 36 #[.pointer (some ⟨f, 0, none⟩)] (grow (redrawn wq d) os) fun e w'' => e = .returned (.string ⟨(U.encs R3).toArray⟩) ∧ ∃ p : Regrown, w'' = grow (redrawn wq p.d) p.os := fun d os => Calls.regrown_of (shtext_calls (HS7.out.below (below_regrown wq d os)))
                  have hL : ∀ d os, Calls Tryd.prog 37 #[.pointer (some ⟨f, 0, none⟩)] (grow (redrawn wq d) os) fun e w'' => e = .returned (.int .i64 ((cnt R3).of unit)) ∧ ∃ p : Regrown, w'' = grow (redrawn wq p.d) p.os := fun d os => Calls.regrown_of (len_calls (HS7.out.below (below_regrown wq d os)))
                  have hI : ∀ d os, Calls Tryd.prog 38 #[.agg #[.int .i64 (cnt R3).b, .int .i64 (cnt R3).h, .int .i64 (cnt R3).r, .int .i64 (cnt R3).l], .int .i64 unit] (grow (redrawn wq d) os) fun e w'' => e = .returned (.int .i64 ((cnt R3).of unit)) ∧ ∃ p : Regrown, w'' = grow (redrawn wq p.d) p.os := fun d os => Calls.regrown_of (by have := refIn_calls (cnt R3) unit (grow (redrawn wq d) os); rw [Cn.v_eq] at this; exact this)
                  have hU : ∀ d os, Calls Tryd.prog 39 #[.pointer (some ⟨f, 0, none⟩)] (grow (redrawn wq d) os) fun e w'' => e = .returned (.int .i64 unit) ∧ ∃ p : Regrown, w'' = grow (redrawn wq p.d) p.os := fun d os => by
                    refine (unit_calls (HS7.out.below (below_regrown wq d os))).mono ?_
                    rintro e w2 ⟨rfl, rfl⟩
                    exact ⟨rfl, ⟨d, os⟩, rfl⟩
                  refine wp_region_quiet_below (by kernel_rfl) (by kernel_rfl) ?_
                  repeat (quiet_step (first | (go_at_call 36; exact hT _ _) | (go_at_call 37; exact hL _ _) | (go_at_call 38; exact hI _ _) | (go_at_call 39; exact hU _ _)))
                  refine wpQuiet_nil ?_
                  rintro _ ⟨⟨dq, oq⟩, rfl⟩
                  have HBz := Hd.mk (bstep HB7.out (below_regrown wq dq oq))
                  have HSz := Hd.mk (HS7.out.below (below_regrown wq dq oq))
                  generalize grow (redrawn wq dq) oq = wz at HBz HSz ⊢
                  clear hT hL hI hU kq0 kq1 kq2 kq3 q0 q1 q2 q3 HCB HB6 HS6 HB7 HS7 HCR
                  go_wp2_with fail
                  go_roundg (n + 1 - (j + 1 + 1))
                  case rel => exact ⟨j + 1 + 1, R3, rfl, (by have hwj : wrap64 ((j : Int) + 1 + 1) = (j : Int) + 1 + 1 := (by have := HJ.out; unfold wrap64; omega); simp [hwj]), by omega, HBz.out, HSz.out⟩
                  case measure => have := HGK.out; omega
              · have HAPP := Hd.mk (shap_calls HS4.out (HG.out.below HB4.out) HSR4.out (by have := HPL.out; omega) (by have := H2K.out; omega))
                have HWH : ∀ (e : Ending) (w6 : World), ShAll f unit R2 lq w4 e w6 → Below w.heap.size w w6 ∧ e = .returned (errno k4) ∧ ShS w6 f unit R2 := by
                  rintro e w6 ⟨ho, h6⟩
                  refine ⟨HB4.out.trans (ho.below HB4.out.size (fun j hj e => by have := HF.out; omega)), ?_⟩
                  rcases h6 with ⟨ke, hke, he, hs6, hkt⟩ | ⟨O, X', -, -, -, htu, -, -⟩
                  · rw [hkt _ _ HT.out]; exact ⟨he, hs6⟩
                  · exact absurd (htu _ _ HT.out).2 hk4
                have zk : ((k4 : Int) == 0) = false := by rw [beq_eq_false_iff_ne]; exact hk4
                go_wp2_with fail
                refine HAPP.out.mono ?_
                rintro e w6 h6
                obtain ⟨hb6, rfl, hs6⟩ := HWH e w6 h6
                have HB6' := Hd.mk hb6
                have HS6' := Hd.mk hs6
                clear h6 hb6 hs6 HWH hk4 x2 hbw4
                unfold errno
                go_wp2_with fail
                refine (bare_true (.no k4) (HG.out.below HB6'.out)).mono ?_
                rintro e w7 ⟨rfl, hb7⟩
                have HBQ := Hd.mk (bstep HB6'.out hb7)
                have HSQ := Hd.mk (HS6'.out.below hb7)
                clear hb7
                have HCR := fun w1 => Hd.mk (rcount_calls (U.sp_encs HSQ.out.all) w1 (by have h1 : (U.encs R2).length = bl R2 := rfl; have h2 := HSQ.out.sz; omega))
                go_wp2_with (go_at_call 18; refine (HCR _).out.mono ?_; rintro e w6 ⟨hb6, he, -⟩; obtain rfl := he rfl; have HB6 := Hd.mk (bstep HBQ.out hb6); have HS6 := Hd.mk (HSQ.out.below hb6); clear hb6 he; unfold fltV)
                have HCB : Hd (CnBlk ((w6.alloc (.cells #[.int .i64 (cnt R2).b, .int .i64 (cnt R2).h, .int .i64 (cnt R2).r, .int .i64 (cnt R2).l] 36)).alloc (.cells #[.int .i64 0, .int .i64 (-1)] 25)) w6.heap.size (cnt R2)) := ⟨CnBlk.below (heap_alloc_new w6 _) (ex_alloc (Below.refl _ _) _) (by simp only [World.size_alloc]; omega)⟩
                have hx7 : Below w6.heap.size w6 ((w6.alloc (.cells #[.int .i64 (cnt R2).b, .int .i64 (cnt R2).h, .int .i64 (cnt R2).r, .int .i64 (cnt R2).l] 36)).alloc (.cells #[.int .i64 0, .int .i64 (-1)] 25)) := ex_alloc (ex_alloc (Below.refl _ _) _) _
                have HB7 := Hd.mk (bstep HB6.out hx7)
                have HS7 := Hd.mk (HS6.out.below hx7)
                clear hx7
                generalize (w6.alloc (.cells #[.int .i64 (cnt R2).b, .int .i64 (cnt R2).h, .int .i64 (cnt R2).r, .int .i64 (cnt R2).l] 36)).alloc (.cells #[.int .i64 0, .int .i64 (-1)] 25) = wq at HCB HB7 HS7 ⊢
                generalize w6.heap.size = gq at HCB ⊢
                obtain ⟨q0, q1, q2, q3⟩ := HCB.out.cells
                have kq0 := cell_regrown q0
                have kq1 := cell_regrown q1
                have kq2 := cell_regrown q2
                have kq3 := cell_regrown q3
                have hT : ∀ d os, Calls Tryd.prog 36 #[.pointer (some ⟨f, 0, none⟩)] (grow (redrawn wq d) os) fun e w'' => e = .returned (.string ⟨(U.encs R2).toArray⟩) ∧ ∃ p : Regrown, w'' = grow (redrawn wq p.d) p.os := fun d os => Calls.regrown_of (shtext_calls (HS7.out.below (below_regrown wq d os)))
                have hL : ∀ d os, Calls Tryd.prog 37 #[.pointer (some ⟨f, 0, none⟩)] (grow (redrawn wq d) os) fun e w'' => e = .returned (.int .i64 ((cnt R2).of unit)) ∧ ∃ p : Regrown, w'' = grow (redrawn wq p.d) p.os := fun d os => Calls.regrown_of (len_calls (HS7.out.below (below_regrown wq d os)))
                have hI : ∀ d os, Calls Tryd.prog 38 #[.agg #[.int .i64 (cnt R2).b, .int .i64 (cnt R2).h, .int .i64 (cnt R2).r, .int .i64 (cnt R2).l], .int .i64 unit] (grow (redrawn wq d) os) fun e w'' => e = .returned (.int .i64 ((cnt R2).of unit)) ∧ ∃ p : Regrown, w'' = grow (redrawn wq p.d) p.os := fun d os => Calls.regrown_of (by have := refIn_calls (cnt R2) unit (grow (redrawn wq d) os); rw [Cn.v_eq] at this; exact this)
                have hU : ∀ d os, Calls Tryd.prog 39 #[.pointer (some ⟨f, 0, none⟩)] (grow (redrawn wq d) os) fun e w'' => e = .returned (.int .i64 unit) ∧ ∃ p : Regrown, w'' = grow (redrawn wq p.d) p.os := fun d os => by
                  refine (unit_calls (HS7.out.below (below_regrown wq d os))).mono ?_
                  rintro e w2 ⟨rfl, rfl⟩
                  exact ⟨rfl, ⟨d, os⟩, rfl⟩
                refine wp_region_quiet_below (by kernel_rfl) (by kernel_rfl) ?_
                repeat (quiet_step (first | (go_at_call 36; exact hT _ _) | (go_at_call 37; exact hL _ _) | (go_at_call 38; exact hI _ _) | (go_at_call 39; exact hU _ _)))
                refine wpQuiet_nil ?_
                rintro _ ⟨⟨dq, oq⟩, rfl⟩
                have HBz := Hd.mk (bstep HB7.out (below_regrown wq dq oq))
                have HSz := Hd.mk (HS7.out.below (below_regrown wq dq oq))
                generalize grow (redrawn wq dq) oq = wz at HBz HSz ⊢
                clear hT hL hI hU kq0 kq1 kq2 kq3 q0 q1 q2 q3 HCB HB6 HS6 HB7 HS7 HCR
                go_wp2_with fail
                go_roundg (n + 1 - (j + 1 + 1))
                case rel => exact ⟨j + 1 + 1, R2, rfl, (by have hwj : wrap64 ((j : Int) + 1 + 1) = (j : Int) + 1 + 1 := (by have := HJ.out; unfold wrap64; omega); simp [hwj]), by omega, HBz.out, HSz.out⟩
                case measure => have := HGK.out; omega
            · go_wp2_with fail
              go_ret
              exact ⟨rfl, HB3.out⟩
        · have hi2 : ¬ ((i : Int) ≤ (n : Int)) := by omega
          go_wp2_with fail
          go_ret
          exact ⟨rfl, HBQ.out⟩
    · have HNE := Hd.mk hr
      have hoff : U.off rs rs.length = bl rs := U.off_full rs
      have HOFF := Hd.mk hoff
      clear hsp hr h1 h2 hoff
      go_enter Tryd.func5, Tryd.ntmps5
      go_wp2_with (first
        | (go_at_call 32; refine HNEW.out.mono ?_; rintro e w1 ⟨hb, -, h3, -, -⟩; obtain ⟨g, rfl, hat⟩ := h3 HU.out HNE.out; have HB := Hd.mk hb; have HAT := Hd.mk hat; clear hb h3 hat; unfold atV)
        | (go_at_call 18; refine (HC _).out.mono ?_; rintro e w2 ⟨hb2, -, he⟩; obtain rfl := he HNE.out; rw [HOFF.out]; have HB2 := Hd.mk (bstep HB.out hb2); have HAT2 := Hd.mk (HAT.out.below hb2); clear hb2 he; unfold fltV)
        | (go_at_call 19; refine (is_true (.at_ g 3 (bl rs) (HAT2.out.below (ex_alloc (ex_alloc (Below.refl _ _) _) _))) (HG.out.below (ex_alloc (ex_alloc HB2.out _) _))).mono ?_; rintro e w3 ⟨rfl, hb3⟩; have HB3 := Hd.mk (bstep (ex_alloc (ex_alloc HB2.out _) _) hb3); clear hb3))
      go_ret
      exact ⟨rfl, HB3.out⟩
  · have HU := Hd.mk hu
    have hc : unit < 1 ∨ (¬ unit < 1 ∧ 3 < unit) := by omega
    clear hsp hu h1 h2
    rcases hc with h | ⟨h, h'⟩
    all_goals
      go_enter Tryd.func5, Tryd.ntmps5
      go_wp2_with (first
        | (go_at_call 32; refine HNEW.out.mono ?_; rintro e w1 ⟨hb, h2, -⟩; obtain rfl := h2 HU.out; have HB := Hd.mk hb; clear hb h2; unfold errno)
        | (go_at_call 30; refine (bare_true (.no 1) (HG.out.below HB.out)).mono ?_; rintro e w2 ⟨rfl, hb2⟩; have HB2 := Hd.mk (bstep HB.out hb2); clear hb2))
      go_ret
      exact ⟨rfl, HB2.out⟩
end
end Go.Proofs.YtgokmldngnmmhaaDoor
