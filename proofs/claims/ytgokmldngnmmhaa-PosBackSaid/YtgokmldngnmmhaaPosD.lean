/- pos.Place, of a spot. -/
import Derived.Test.YtgokmldngnmmhaaPosC
namespace Go.Proofs.Ytgokmldngnmmhaa
open Go.RowKit Go.Sort
set_option maxRecDepth 100000
attribute [local go_sem] Cn.v_eq field_cn3
set_option maxHeartbeats 8000000 in
theorem place_ok {p : Nat} {t : RT} {w : World} {u at_ : Int} {c lc : Cn} (h : AtR w p t) (hg : Good t) (hu : 1 ≤ u ∧ u ≤ 3) (hp : Pl u at_ t.runes c) (hl : Ln c.l t.runes lc) :
    Calls Try.prog 11 #[.pointer (some ⟨p, 0, none⟩), .int .i64 u, .agg #[.int .i64 c.l, .int .i64 (c.of u - lc.of u)]] w fun e w' => e = .returned (.tuple #[.int .i64 at_, .nilIface]) ∧ Below w.heap.size w w' := by
  have HA := Hd.mk (fun w1 (hb : Below w.heap.size w w1) => ahead_calls (u := u) (at_ := at_) (h.below hb) hg)
  have HL := Hd.mk (fun n w1 (hb : Below w.heap.size w w1) => line_calls (n := n) (h.below hb) hg)
  have HC := Hd.mk (fun w1 (hb : Below w.heap.size w w1) => counts_calls (h.below hb))
  have HU := Hd.mk hu
  have htl : t.runes.length ≤ 8000 := by have := bl_len t.runes; have := hg.sz; omega
  have i1 : ¬ u < 1 := by omega
  have i2 : ¬ 3 < u := by omega
  have HP := Hd.mk hp
  have HLN := Hd.mk hl
  have hcl := hp.l
  have HCL := Hd.mk hcl
  obtain ⟨vl, hvl⟩ : ∃ x, x = lc.of u := ⟨_, rfl⟩
  obtain ⟨col, hcol⟩ : ∃ x, x = c.of u - vl := ⟨_, rfl⟩
  obtain ⟨tot, htot⟩ : ∃ x, x = cnt t.runes := ⟨_, rfl⟩
  have hca : c.of u = at_ := by obtain ⟨p, q, -, e, rfl⟩ := hp; exact e
  have hlc : lc.of u ≤ c.of u := by obtain ⟨p, q, e1, -, rfl⟩ := hp; rw [e1] at hl; exact ln_le hl
  have hb1 := hp.of_le htl u
  have hb2 := hl.of_le htl u
  have htu : c.of u ≤ (cnt t.runes).of u := by obtain ⟨p, q, e1, -, rfl⟩ := hp; rw [e1, cnt_app_of]; have := of_nn q u; omega
  have htb : (cnt t.runes).of u ≤ 32000 := by have := of_le (rs := t.runes) (n := 8000) htl u; omega
  have hlb : (cnt t.runes).l ≤ 32000 := by have := l_le (rs := t.runes) (k := 8000) htl; omega
  rw [← hvl, ← hcol]
  rw [← htot] at htu htb hcl hlb
  have HVL := Hd.mk hvl
  have HTOT := Hd.mk htot
  obtain ⟨vt, hvt⟩ : ∃ x, x = tot.of u := ⟨_, rfl⟩
  have HVT := Hd.mk hvt
  rw [← hvt] at htu htb
  rw [← hvl] at hlc hb2
  rw [hca] at hcol htu hlc hb1
  have HCOL := Hd.mk hcol
  have k1 : 0 ≤ col := by omega
  have k2 : col ≤ 32000 := by omega
  have k3 : vl + col = at_ := by omega
  have HK := Hd.mk k3
  have HCA := Hd.mk hca
  have HHH : Hd (AtR w p t ∧ Good t) := ⟨⟨h, hg⟩⟩
  obtain ⟨n, hn⟩ : ∃ x, x = c.l := ⟨_, rfl⟩
  rw [← hn] at hcl ⊢
  have HN := Hd.mk hn
  obtain ⟨hn1, hn2⟩ := hcl
  obtain ⟨hvl1, hvl2⟩ := hb2
  obtain ⟨hat1, hat2⟩ := hb1
  have HTL := Hd.mk htl
  have HTU := Hd.mk htu
  clear h hg hu hp hl hvl hcol htot hvt hca hn k3 htl
  go_enter Try.func11, Try.ntmps11
  go_wp2_with fail
  have hB0 : Blk (w.alloc (.cells #[.int .i64 n, .int .i64 col] 35)) w.heap.size 35 #[.int .i64 n, .int .i64 col] := Blk.new _ _ _
  refine (HL.out n _ (ex_alloc (Below.refl _ _) _)).mono ?_
  rintro e w1 ⟨hb, lc2, er, rfl, hr⟩
  obtain ⟨rfl, hln⟩ := hr.2 (by rw [← HTOT.out]; omega)
  rw [HN.out] at hln
  obtain rfl := hln.unique HLN.out
  have HB1 := Hd.mk (bstep (ex_alloc (Below.refl _ _) _) hb)
  have HS1 := Hd.mk (hB0.below hb hB0.lt)
  clear hb hr hln hB0
  go_upto_region 6 with fail
  have hl1 : CnBlk (w1.alloc (.cells #[.int .i64 lc2.b, .int .i64 lc2.h, .int .i64 lc2.r, .int .i64 lc2.l] 28)) w1.heap.size lc2 := heap_alloc_new w1 _
  have HS2 := Hd.mk (HS1.out.alloc (.cells #[.int .i64 lc2.b, .int .i64 lc2.h, .int .i64 lc2.r, .int .i64 lc2.l] 28))
  have HB2 := Hd.mk (ex_alloc HB1.out (.cells #[.int .i64 lc2.b, .int .i64 lc2.h, .int .i64 lc2.r, .int .i64 lc2.l] 28))
  have HL2 := Hd.mk hl1
  generalize w1.alloc (.cells #[.int .i64 lc2.b, .int .i64 lc2.h, .int .i64 lc2.r, .int .i64 lc2.l] 28) = w2 at HS2 HB2 HL2 ⊢
  generalize w1.heap.size = y at HL2 ⊢
  clear hl1 HS1 HB1 w1
  go_upto_region 7 with (first
    | (go_at_call 8; refine (HC.out _ HB2.out).mono ?_; rintro e w3 ⟨rfl, hb3⟩; rw [← HTOT.out]; have HB3 := Hd.mk (bstep HB2.out hb3); have HS3 := Hd.mk (HS2.out.below hb3 HS2.out.lt); have HL3 := Hd.mk (HL2.out.below hb3 HL2.out.lt); clear hb3)
    | (go_at_call 7; refine (in_calls tot u _).mono ?_; rintro e w4 ⟨rfl, hb4⟩; rw [← HVT.out]; have HB4 := Hd.mk (bstep HB3.out hb4); have HS4 := Hd.mk (HS3.out.below hb4 HS3.out.lt); have HL4 := Hd.mk (HL3.out.below hb4 HL3.out.lt); clear hb4))
  have s0 := HS4.out.cell 0
  have s1 := HS4.out.cell 1
  simp only [List.getElem?_toArray, List.getElem?_cons_zero, List.getElem?_cons_succ] at s0 s1
  obtain ⟨l0, l1, l2, l3⟩ := HL4.out.cells
  have ks0 := cell_regrown s0
  have ks1 := cell_regrown s1
  have kl0 := cell_regrown l0
  have kl1 := cell_regrown l1
  have kl2 := cell_regrown l2
  have kl3 := cell_regrown l3
  have hqc : ∀ d os, Calls Try.prog 8 #[.pointer (some ⟨p, 0, none⟩)] (grow (redrawn w4 d) os) fun e w'' => e = .returned (.agg #[.int .i64 tot.b, .int .i64 tot.h, .int .i64 tot.r, .int .i64 tot.l]) ∧ ∃ p : Regrown, w'' = grow (redrawn w4 p.d) p.os := fun d os => by rw [HTOT.out]; exact Calls.regrown_of (HC.out _ (bstep HB4.out (below_regrown w4 d os)))
  refine wp_region_quiet_below (by kernel_rfl) (by kernel_rfl) ?_
  repeat (quiet_step (exact hqc _ _))
  refine wpQuiet_nil ?_
  rintro _ ⟨⟨dq5, oq5⟩, rfl⟩
  have hbg5 := below_regrown w4 dq5 oq5
  have HB5 := Hd.mk (bstep HB4.out hbg5)
  have HS5 := Hd.mk (HS4.out.below hbg5 HS4.out.lt)
  have HL5 := Hd.mk (HL4.out.below hbg5 HL4.out.lt)
  generalize grow (redrawn w4 dq5) oq5 = w5 at HB5 HS5 HL5 ⊢
  clear hbg5 ks0 ks1 kl0 kl1 kl2 kl3 hqc s0 s1 l0 l1 l2 l3
  by_cases hnt : n < tot.l
  · have s0 := HS5.out.cell 0
    have sl := HS5.out.lt
    simp only [List.getElem?_toArray, List.getElem?_cons_zero] at s0
    go_wp2_with fail
    refine (HL.out (n + 1) _ HB5.out).mono ?_
    rintro e w6 ⟨hb6, nx, er6, rfl, hr6⟩
    obtain ⟨rfl, hln6⟩ := hr6.2 (by rw [← HTOT.out]; omega)
    have hnx : at_ + 1 ≤ nx.of u := by
      obtain ⟨p1, q1, e1, e2, e3⟩ := HP.out
      have h1 := HN.out
      rw [e3] at h1
      rw [h1, e1] at hln6
      have := ln_next HU.out hln6
      omega
    have hnx2 := hln6.of_le HTL.out u
    have HB6 := Hd.mk (bstep HB5.out hb6)
    have HS6 := Hd.mk (HS5.out.below hb6 HS5.out.lt)
    have HL6 := Hd.mk (HL5.out.below hb6 HL5.out.lt)
    clear hb6 hr6 hln6 s0 sl
    go_upto_region 10 with (go_at_call 7; refine (in_calls nx u _).mono ?_; rintro e w7 ⟨rfl, hb7⟩; have HB7 := Hd.mk (bstep (ex_alloc HB6.out _) hb7); have HS7 := Hd.mk ((HS6.out.alloc _).below hb7 (by simp; have := HS6.out.lt; omega)); have HL7 := Hd.mk (CnBlk.below (Blk.alloc (t := 28) HL6.out _) hb7 (by simp; have := HL6.out.lt; omega)); clear hb7)
    obtain ⟨hnx3, hnx4⟩ := hnx2
    generalize nx.of u = vn at *
    have d1 : decide (col < 0) = false := decide_eq_false (by omega)
    have hw1 : IntKind.i64.wrap ((vn - 1) - vl) = (vn - 1) - vl := by rw [IntKind.wrap_i64] <;> omega
    have hw2 : IntKind.i64.wrap (vl + col) = at_ := by rw [HK.out, IntKind.wrap_i64] <;> omega
    have hce : ¬ ((vn - 1) - vl < col) := by have := HK.out; have := HTU.out; omega
    go_wp2_with fail
    have s0 := HS7.out.cell 0
    have s1 := HS7.out.cell 1
    simp only [List.getElem?_toArray, List.getElem?_cons_zero, List.getElem?_cons_succ] at s0 s1
    obtain ⟨l0, l1, l2, l3⟩ := HL7.out.cells
    have ks0 := cell_regrown s0
    have ks1 := cell_regrown s1
    have kl0 := cell_regrown l0
    have kl1 := cell_regrown l1
    have kl2 := cell_regrown l2
    have kl3 := cell_regrown l3
    have hqc : ∀ d os, Calls Try.prog 7 #[.agg #[.int .i64 lc2.b, .int .i64 lc2.h, .int .i64 lc2.r, .int .i64 lc2.l], .int .i64 u] (grow (redrawn w7 d) os) fun e w'' => e = .returned (.int .i64 vl) ∧ ∃ p : Regrown, w'' = grow (redrawn w7 p.d) p.os := fun d os => by rw [HVL.out]; exact Calls.regrown_of (in_calls lc2 u _)
    refine wp_region_quiet_below (by kernel_rfl) (by kernel_rfl) ?_
    repeat (quiet_step (exact hqc _ _))
    refine wpQuiet_nil ?_
    rintro _ ⟨⟨dqa, oqa⟩, rfl⟩
    have hbga := below_regrown w7 dqa oqa
    have HBa := Hd.mk (bstep HB7.out hbga)
    have HSa := Hd.mk (HS7.out.below hbga HS7.out.lt)
    have HLa := Hd.mk (HL7.out.below hbga HL7.out.lt)
    generalize grow (redrawn w7 dqa) oqa = wa at HBa HSa HLa ⊢
    clear hbga ks0 ks1 kl0 kl1 kl2 kl3 hqc s0 s1 l0 l1 l2 l3
    go_wp2_with fail
    have s0 := HSa.out.cell 0
    have s1 := HSa.out.cell 1
    simp only [List.getElem?_toArray, List.getElem?_cons_zero, List.getElem?_cons_succ] at s0 s1
    obtain ⟨l0, l1, l2, l3⟩ := HLa.out.cells
    have ks0 := cell_regrown s0
    have ks1 := cell_regrown s1
    have kl0 := cell_regrown l0
    have kl1 := cell_regrown l1
    have kl2 := cell_regrown l2
    have kl3 := cell_regrown l3
    have hqc : ∀ d os, Calls Try.prog 7 #[.agg #[.int .i64 lc2.b, .int .i64 lc2.h, .int .i64 lc2.r, .int .i64 lc2.l], .int .i64 u] (grow (redrawn wa d) os) fun e w'' => e = .returned (.int .i64 vl) ∧ ∃ p : Regrown, w'' = grow (redrawn wa p.d) p.os := fun d os => by rw [HVL.out]; exact Calls.regrown_of (in_calls lc2 u _)
    refine wp_region_quiet_below (by kernel_rfl) (by kernel_rfl) ?_
    repeat (quiet_step (exact hqc _ _))
    refine wpQuiet_nil ?_
    rintro _ ⟨⟨dqb, oqb⟩, rfl⟩
    have hbgb := below_regrown wa dqb oqb
    have HBb := Hd.mk (bstep HBa.out hbgb)
    have HSb := Hd.mk (HSa.out.below hbgb HSa.out.lt)
    have HLb := Hd.mk (HLa.out.below hbgb HLa.out.lt)
    generalize grow (redrawn wa dqb) oqb = wb at HBb HSb HLb ⊢
    clear hbgb ks0 ks1 kl0 kl1 kl2 kl3 hqc s0 s1 l0 l1 l2 l3
    go_wp2_with fail
    refine (HA.out _ HBb.out).mono ?_
    rintro e w9 ⟨hb9, c9, er9, rfl, hr9⟩
    have HB9 := Hd.mk (bstep HBb.out hb9)
    obtain ⟨rfl, -⟩ : er9 = .nilIface ∧ True := by
      rcases ahead_cases hr9 with ⟨e, -⟩ | ⟨k, -, -, -, hno⟩
      · exact ⟨e, trivial⟩
      · exact absurd ⟨HP.out, HU.out⟩ (hno c)
    clear hb9 hr9
    go_wp2_with fail
    go_ret2
    exact ⟨rfl, ex_alloc HB9.out _⟩
  · skip
    have d1 : decide (col < 0) = false := decide_eq_false (by omega)
    have hw1 : IntKind.i64.wrap (vt - vl) = vt - vl := by rw [IntKind.wrap_i64] <;> omega
    have hw2 : IntKind.i64.wrap (vl + col) = at_ := by rw [HK.out, IntKind.wrap_i64] <;> omega
    have hce : ¬ (vt - vl < col) := by have := HK.out; have := HTU.out; omega
    go_wp2_with fail
    have s0 := HS5.out.cell 0
    have s1 := HS5.out.cell 1
    simp only [List.getElem?_toArray, List.getElem?_cons_zero, List.getElem?_cons_succ] at s0 s1
    obtain ⟨l0, l1, l2, l3⟩ := HL5.out.cells
    have ks0 := cell_regrown s0
    have ks1 := cell_regrown s1
    have kl0 := cell_regrown l0
    have kl1 := cell_regrown l1
    have kl2 := cell_regrown l2
    have kl3 := cell_regrown l3
    have hqc : ∀ d os, Calls Try.prog 7 #[.agg #[.int .i64 lc2.b, .int .i64 lc2.h, .int .i64 lc2.r, .int .i64 lc2.l], .int .i64 u] (grow (redrawn w5 d) os) fun e w'' => e = .returned (.int .i64 vl) ∧ ∃ p : Regrown, w'' = grow (redrawn w5 p.d) p.os := fun d os => by rw [HVL.out]; exact Calls.regrown_of (in_calls lc2 u _)
    refine wp_region_quiet_below (by kernel_rfl) (by kernel_rfl) ?_
    repeat (quiet_step (exact hqc _ _))
    refine wpQuiet_nil ?_
    rintro _ ⟨⟨dqa, oqa⟩, rfl⟩
    have hbga := below_regrown w5 dqa oqa
    have HBa := Hd.mk (bstep HB5.out hbga)
    have HSa := Hd.mk (HS5.out.below hbga HS5.out.lt)
    have HLa := Hd.mk (HL5.out.below hbga HL5.out.lt)
    generalize grow (redrawn w5 dqa) oqa = wa at HBa HSa HLa ⊢
    clear hbga ks0 ks1 kl0 kl1 kl2 kl3 hqc s0 s1 l0 l1 l2 l3
    go_wp2_with fail
    have s0 := HSa.out.cell 0
    have s1 := HSa.out.cell 1
    simp only [List.getElem?_toArray, List.getElem?_cons_zero, List.getElem?_cons_succ] at s0 s1
    obtain ⟨l0, l1, l2, l3⟩ := HLa.out.cells
    have ks0 := cell_regrown s0
    have ks1 := cell_regrown s1
    have kl0 := cell_regrown l0
    have kl1 := cell_regrown l1
    have kl2 := cell_regrown l2
    have kl3 := cell_regrown l3
    have hqc : ∀ d os, Calls Try.prog 7 #[.agg #[.int .i64 lc2.b, .int .i64 lc2.h, .int .i64 lc2.r, .int .i64 lc2.l], .int .i64 u] (grow (redrawn wa d) os) fun e w'' => e = .returned (.int .i64 vl) ∧ ∃ p : Regrown, w'' = grow (redrawn wa p.d) p.os := fun d os => by rw [HVL.out]; exact Calls.regrown_of (in_calls lc2 u _)
    refine wp_region_quiet_below (by kernel_rfl) (by kernel_rfl) ?_
    repeat (quiet_step (exact hqc _ _))
    refine wpQuiet_nil ?_
    rintro _ ⟨⟨dqb, oqb⟩, rfl⟩
    have hbgb := below_regrown wa dqb oqb
    have HBb := Hd.mk (bstep HBa.out hbgb)
    have HSb := Hd.mk (HSa.out.below hbgb HSa.out.lt)
    have HLb := Hd.mk (HLa.out.below hbgb HLa.out.lt)
    generalize grow (redrawn wa dqb) oqb = wb at HBb HSb HLb ⊢
    clear hbgb ks0 ks1 kl0 kl1 kl2 kl3 hqc s0 s1 l0 l1 l2 l3
    go_wp2_with fail
    refine (HA.out _ HBb.out).mono ?_
    rintro e w9 ⟨hb9, c9, er9, rfl, hr9⟩
    have HB9 := Hd.mk (bstep HBb.out hb9)
    obtain ⟨rfl, -⟩ : er9 = .nilIface ∧ True := by
      rcases ahead_cases hr9 with ⟨e, -⟩ | ⟨k, -, -, -, hno⟩
      · exact ⟨e, trivial⟩
      · exact absurd ⟨HP.out, HU.out⟩ (hno c)
    clear hb9 hr9
    go_wp2_with fail
    go_ret2
    exact ⟨rfl, ex_alloc HB9.out _⟩
end Go.Proofs.Ytgokmldngnmmhaa
