/- ref.Compose. -/
import Derived.Test.YthbhhnfhjppbdaaDoorCompM
import Derived.Test.YthbhhnfhjppbdaaDoorOpXC
import Derived.Test.YthbhhnfhjppbdaaDoorRefX2
namespace Go.Proofs.YthbhhnfhjppbdaaDoor
open Go.RowKit
set_option maxRecDepth 100000
theorem el_cell : El Tryd.prog 101 103 2 16 := El.mk' Tryd.underlying101 (by kernel_rfl) (by decide)
theorem expand_take {l : List PT} {k : Nat} (h : k < l.length) : expand (l.take (k + 1)) = expand (l.take k) ++ l[k].exp := by
  rw [List.take_succ_eq_append_getElem h, expand_append, expand_cons, expand_nil, List.append_nil]
/-- What stands in the middle: its cells, and the place. -/
structure CR (B wr : World) (mid : Value) (ms : List Cl) (L : Nat) : Prop where
  own : wr.ownsRow B.heap.size 103 2 mid ms.length (clv ms)
  bel : Below B.heap.size B wr
  len : ms.length ≤ L
/-- The same, and a part in its variable. -/
structure CQ (B wr : World) (mid : Value) (ms : List Cl) (L P : Nat) (p : PT) : Prop where
  cr : CR B wr mid ms L
  pb : Blk wr P 81 #[.int .i64 p.keep, .int .i64 p.drop, .string ⟨p.put.toArray⟩]
  ne : ∀ b, mid.ownBlock = some b → b ≠ P
  ge : B.heap.size ≤ P
section
variable {B wr w' : World} {mid mid' : Value} {ms ms' : List Cl} {L P : Nat} {p : PT}
theorem CR.new (B : World) : CR B B (.slice none 0 0) [] 0 := ⟨World.ownsRow_nil _ _ _ _, Below.refl _ _, Nat.le_refl _⟩
theorem CR.box (h : CR B wr mid ms L) (p : PT) : CQ B (wr.alloc (.cells #[.int .i64 p.keep, .int .i64 p.drop, .string ⟨p.put.toArray⟩] 81)) mid ms L wr.heap.size p :=
  ⟨⟨h.own.alloc _, ex_alloc h.bel _, h.len⟩, Blk.new _ _ _, fun b hb => by have := (h.own.lt b hb).2; omega, h.bel.size⟩
theorem CQ.add {n : Nat} {ys : List Value} (h : CQ B wr mid ms L P p) (hn : ms.length + n = ms'.length) (hc : clv ms' = clv ms ++ ys) (ho : w'.ownsRow B.heap.size 103 2 mid' (ms.length + n) (clv ms ++ ys)) (hb : Below B.heap.size wr w') (hg : wr.grownBy w' mid.ownBlock)
    (hnew : ∀ k, mid'.ownBlock = some k → mid.ownBlock = some k ∨ wr.heap.size ≤ k) : CQ B w' mid' ms' (L + n) P p := by
  refine ⟨⟨by rw [← hn, hc]; exact ho, h.cr.bel.trans hb, by have := h.cr.len; omega⟩, h.pb.only (Only.of_grown hg) (fun e => h.ne P e.symm rfl), fun b hb' => ?_, h.ge⟩
  rcases hnew b hb' with e | e
  · exact h.ne b e
  · have := h.pb.lt; omega
end
section
attribute [local go_sem] add_mk str_append
set_option maxHeartbeats 16000000 in
theorem rcomp_calls {la lb : List PT} {va vb : Value} {na nb : Nat} {w : World} (ha : Sl w 3 va na (opv la)) (hb : Sl w 3 vb nb (opv lb)) (hfa : Few la) (hfb : Few lb) (hna : na ≤ 100) (hnb : nb ≤ 100) :
    Calls Tryd.prog 13 #[va, vb] w (RtRes (cmc la lb) (cm (expand la) (expand lb)) w) := by
  have hla : la.length = na := by have := ha.len; rw [opv_length] at this; omega
  have hlb : lb.length = nb := by have := hb.len; rw [opv_length] at this; omega
  have HA := Hd.mk ha
  have HB := Hd.mk hb
  have HFA := Hd.mk hfa
  have HFB := Hd.mk hfb
  obtain ⟨A1, c1, rfl, -⟩ := ha
  obtain ⟨A2, c2, rfl, -⟩ := hb
  clear hfa hfb
  go_enter Tryd.func13, Tryd.ntmps13
  go_wp2_with fail
  refine (both_calls HA.out HB.out (fun p h => by have := (HFA.out p h).1; omega) (fun p h => by have := (HFB.out p h).1; omega)).mono ?_
  rintro e w1 ⟨rfl, hb1⟩
  have HB1 := Hd.mk hb1
  clear hb1
  by_cases h0 : chk2 la lb = 0
  · obtain ⟨ga, gb⟩ := chk2_good h0
    have harga : ∀ p ∈ la, p.arg := fun p hp => (ga p hp).1
    have hargb : ∀ p ∈ lb, p.arg := fun p hp => (gb p hp).1
    obtain ⟨f1, f2, f3⟩ := few_bd HFA.out harga
    obtain ⟨f4, f5, f6⟩ := few_bd HFB.out hargb
    have f7 := few_comes HFA.out harga
    have ea := wrap_id f3 (by omega)
    have eb := wrap_id f6 (by omega)
    have ec := wrap_id (a := comes la) f7.1 (by omega)
    have HEA := Hd.mk ea
    have HEB := Hd.mk eb
    have HEC := Hd.mk ec
    have HARA := Hd.mk harga
    have HARB := Hd.mk hargb
    obtain ⟨N, hN⟩ := Int.eq_ofNat_of_zero_le f3
    obtain ⟨M, hM⟩ := Int.eq_ofNat_of_zero_le f7.1
    have HN := Hd.mk hN
    have HM := Hd.mk hM
    have hN2 : N ≤ 1000000 := by omega
    have hM2 : M ≤ 530000 := by omega
    have HWB : Hd (was lb ≤ 1000000 ∧ plen lb ≤ 30000 ∧ 0 ≤ was lb ∧ plen la ≤ 30000) := ⟨by omega, by omega, f6, by omega⟩
    rw [h0]
    have H0 := Hd.mk h0
    clear h0 ga gb harga hargb f1 f2 f3 f4 f5 f6 f7 ea eb ec hN hM
    go_wp2_with fail
    refine (rlens_calls (HA.out.below HB1.out)).mono ?_
    rintro e w2 ⟨he, hb2⟩
    rw [HEA.out, HEC.out, HN.out, HM.out] at he
    subst he
    have HB2 := Hd.mk (bstep HB1.out hb2)
    clear hb2
    go_wp2_with fail
    refine (rlens_calls (HB.out.below HB2.out)).mono ?_
    rintro e w3 ⟨he, hb3⟩
    rw [HEB.out] at he
    subst he
    have HB3 := Hd.mk (bstep HB2.out hb3)
    clear hb3
    by_cases hw : was lb = M
    · have HTC : Hd (cmc la lb = 0) := ⟨by unfold cmc; rw [if_pos H0.out, if_pos (by rw [hw, HM.out])]⟩
      have HW := Hd.mk hw
      have hw' : ((M : Int) == M) = true := beq_self _
      rw [hw]
      have HUA : Hd (uwas (expand la) = N ∧ ucomes (expand la) = M ∧ uwas (expand lb) = M) := ⟨by
        obtain ⟨a1, a2, _⟩ := expand_meas HARA.out
        obtain ⟨b1, _, _⟩ := expand_meas HARB.out
        have h1 := HN.out
        have h2 := HM.out
        omega⟩
      clear hw
      go_wp2_with fail
      go_loopw [11, 12, 46] (fun mid at_ i wr => ∃ k a : Nat, k ≤ na ∧ i = .int .i64 k ∧ at_ = .int .i64 a ∧ uwas (expand (la.take k)) = a ∧ a ≤ 10000 * k ∧ CR w3 wr mid (mcells 0 (expand (la.take k))) (5300 * k)) (fun _ _ i _ => na - (intOf i).toNat)
      case atStart => exact ⟨0, 0, by omega, rfl, rfl, rfl, by omega, CR.new _⟩
      case round =>
        obtain ⟨wa, rfl⟩ : ∃ W, W = wr := ⟨_, rfl⟩
        obtain ⟨k, a, hk, rfl, rfl, hua, hab, hcr⟩ := hrel
        have HCR := Hd.mk hcr
        have hbz := hcr.bel.size
        by_cases hkn : k < na
        · obtain ⟨b, o, c', hv, hlt, c0, c1, c2⟩ := (HA.out.below (bstep HB3.out hcr.bel)).part hkn (by omega)
          cases hv
          have HEX := Hd.mk (expand_take (l := la) (k := k) (by omega))
          have harg := HARA.out _ (List.getElem_mem (h := (by omega : k < la.length)))
          have hfew := HFA.out _ (List.getElem_mem (h := (by omega : k < la.length)))
          have HEA2 := Hd.mk (exp_all harg)
          have HBX := Hd.mk (hcr.box (la[k]'(by omega)))
          have hml := hcr.len
          obtain ⟨Am, cm_, rfl⟩ := own_form hcr.own
          generalize la[k] = p at *
          obtain ⟨x, y, z⟩ := p
          obtain ⟨_, hx, hy⟩ := harg
          obtain ⟨hf1, hf2, hf3⟩ := hfew
          obtain ⟨x, rfl⟩ := Int.eq_ofNat_of_zero_le hx
          obtain ⟨y, rfl⟩ := Int.eq_ofNat_of_zero_le hy
          dsimp only at hf1 hf2 hf3 c0 c1 c2
          clear hx hy hcr
          have HMA : Hd (mcells 0 (expand (la.take (k + 1))) = mcells 0 (expand (la.take k) ++ List.replicate x PT.k1 ++ z.map PT.byte) ∧ uwas (expand (la.take (k + 1))) = a + x + y) := ⟨by
            rw [HEX.out, HEA2.out]
            dsimp only
            rw [Int.toNat_natCast, Int.toNat_natCast, ← List.append_assoc, ← List.append_assoc]
            refine ⟨by rw [mcells_append, mcells_d, List.append_nil], ?_⟩
            rw [uwas_append, uwas_append, uwas_append, uwas_k, uwas_b, uwas_d, hua]; omega⟩
          generalize expand (la.take k) = u at *
          have HUA2 := Hd.mk hua
          clear hua HEX HEA2
          go_wp2_with fail
          go_loopw [11, 12, 52] (fun mid at_ cnt wq => ∃ j t : Nat, j ≤ x ∧ cnt = .int .i64 j ∧ at_ = .int .i64 t ∧ t = a + j ∧ CQ w3 wq mid (mcells 0 (u ++ List.replicate j PT.k1)) (5300 * k + j) wa.heap.size ⟨x, y, z⟩) (fun _ _ cnt _ => x - (intOf cnt).toNat)
          case atStart => exact ⟨0, a, by omega, rfl, rfl, rfl, by simpa using HBX.out⟩
          case round =>
            obtain ⟨j, t, hj, rfl, rfl, ht, hcq⟩ := hrel
            have HCQ := Hd.mk hcq
            have htb : t ≤ 10000 * k + 5000 := by omega
            have HT := Hd.mk ht
            clear ht
            obtain ⟨Aj, cj, rfl⟩ := own_form hcq.cr.own
            have hml2 := hcq.cr.len
            have p1 := hcq.pb.cell 1
            have p2 := hcq.pb.cell 2
            have hbz2 := hcq.cr.bel.size
            simp only [List.getElem?_toArray, List.getElem?_cons_zero, List.getElem?_cons_succ] at p1 p2
            clear hcq
            by_cases hjx : j < x
            · have HE : Hd (mcells 0 (u ++ List.replicate (j + 1) PT.k1) = mcells 0 (u ++ List.replicate j PT.k1) ++ [⟨t, 0⟩]) := ⟨by
                rw [List.replicate_succ', ← List.append_assoc, mcells_append, mcells_k, uwas_append, uwas_k, HUA2.out, Nat.zero_add, HT.out]⟩
              have HCV : Hd (∀ ms : List Cl, clv (ms ++ [⟨t, 0⟩]) = clv ms ++ (#[.int .i64 (t : Int), .int .u8 0] : Array Value).toList) := ⟨fun ms => by rw [clv_append, clv_one] <;> rfl⟩
              generalize mcells 0 (u ++ List.replicate j PT.k1) = ms at *
              go_wp2_with (at_builtin; refine append_lit' el_cell #[.int .i64 (t : Int), .int .u8 0] HCQ.out.cr.own rfl rfl rfl rfl (by simp) rfl (one2 rfl rfl) (by unfold maxLen; omega) (by omega) hbz2 ?_; intro v9 w9 hown9 hbel9 hgr9 hnew9; have HQ9 := Hd.mk (HCQ.out.add (ms' := ms ++ [⟨t, 0⟩]) (n := 1) (by simp) (HCV.out ms) hown9 hbel9 hgr9 hnew9); obtain ⟨A9, k9, rfl⟩ := own_form hown9; clear hown9 hbel9 hgr9 hnew9)
              exact ⟨⟨j + 1, t + 1, by omega, by go_num, by go_num, by have := HT.out; omega, by rw [HE.out]; exact HQ9.out⟩, by simp only [intOf]; omega⟩
            · obtain rfl : j = x := by omega
              clear HBX
              go_wp2_with fail
              go_loopw [11, 65] (fun mid cnt wz => ∃ i : Nat, i ≤ z.length ∧ cnt = .int .i64 i ∧ CQ w3 wz mid (mcells 0 (u ++ List.replicate j PT.k1 ++ (z.take i).map PT.byte)) (5300 * k + j + i) wa.heap.size ⟨j, y, z⟩) (fun _ cnt _ => z.length - (intOf cnt).toNat)
              case atStart => exact ⟨0, by omega, rfl, by simpa using HCQ.out⟩
              case round =>
                obtain ⟨i, hi, rfl, hcq⟩ := hrel
                have HCZ := Hd.mk hcq
                obtain ⟨Az, cz, rfl⟩ := own_form hcq.cr.own
                have hml3 := hcq.cr.len
                have p1 := hcq.pb.cell 1
                have p2 := hcq.pb.cell 2
                have hbz3 := hcq.cr.bel.size
                simp only [List.getElem?_toArray, List.getElem?_cons_zero, List.getElem?_cons_succ] at p1 p2
                clear hcq
                by_cases hiz : i < z.length
                · have HE : Hd (mcells 0 (u ++ List.replicate j PT.k1 ++ (z.take (i + 1)).map PT.byte) = mcells 0 (u ++ List.replicate j PT.k1 ++ (z.take i).map PT.byte) ++ [⟨-1, U.at_ z i⟩]) := ⟨by
                    rw [take_at hiz, List.map_append, List.map_cons, List.map_nil, ← List.append_assoc, mcells_append, mcells_b]⟩
                  have e0 := fun hh => getD_at (s := z) (j := i) hiz hh
                  generalize mcells 0 (u ++ List.replicate j PT.k1 ++ (z.take i).map PT.byte) = ms at *
                  generalize U.at_ z i = cc at *
                  have hc256 : cc.toNat < 256 := cc.toNat_lt
                  have HCV : Hd (clv (ms ++ [⟨-1, cc⟩]) = clv ms ++ (#[.int .i64 (-1), .int .u8 (cc.toNat : Int)] : Array Value).toList) := ⟨by rw [clv_append, clv_one] <;> rfl⟩
                  go_wp2_with (at_builtin; refine append_lit' el_cell #[.int .i64 (-1), .int .u8 (cc.toNat : Int)] HCZ.out.cr.own rfl rfl rfl rfl (by simp) rfl (one2 rfl rfl) (by unfold maxLen; omega) (by omega) hbz3 ?_; intro v9 w9 hown9 hbel9 hgr9 hnew9; have HQ9 := Hd.mk (HCZ.out.add (ms' := ms ++ [⟨-1, cc⟩]) (n := 1) (by simp) HCV.out hown9 hbel9 hgr9 hnew9); obtain ⟨A9, k9, rfl⟩ := own_form hown9; clear hown9 hbel9 hgr9 hnew9)
                  exact ⟨⟨i + 1, by omega, by go_num, by rw [HE.out]; exact HQ9.out⟩, by simp only [intOf]; omega⟩
                · obtain rfl : i = z.length := by omega
                  have hE : mcells 0 (u ++ List.replicate j PT.k1 ++ (z.take z.length).map PT.byte) = mcells 0 (expand (la.take (k + 1))) := by rw [List.take_length, ← HMA.out.1]
                  rw [hE] at HCZ hml3 ⊢
                  clear hE
                  go_wp2_with fail
                  exact ⟨⟨k + 1, t + y, by omega, by go_num, by go_num, by rw [HMA.out.2]; have := HT.out; omega, by have := HT.out; omega, ⟨HCZ.out.cr.own, HCZ.out.cr.bel, by have := HCZ.out.cr.len; omega⟩⟩, by simp only [intOf]; omega⟩
        · obtain rfl : k = na := by omega
          rw [show la.take k = la from by rw [← hla, List.take_length]] at hcr hua HCR
          have HML : Hd ((mcells 0 (expand la)).length = M) := ⟨by rw [mcells_len expand_unit1]; exact HUA.out.2.1⟩
          have HEC2 : Hd (ecells (expand lb) (mcells 0 (expand la)) = mcells 0 (cm (expand la) (expand lb)) ∧ uwas (cm (expand la) (expand lb)) = N ∧ ∀ p ∈ cm (expand la) (expand lb), Unit1 p) := ⟨by
            obtain ⟨x1, x2, x3⟩ := cm_cells (x := expand la) (y := expand lb) expand_unit1 expand_unit1 (by rw [HUA.out.2.1, HUA.out.2.2]) 0
            exact ⟨x1.symm, by rw [x2]; exact HUA.out.1, x3⟩⟩
          have HUL : Hd ((ecells (expand lb) (mcells 0 (expand la))).length ≤ 2000000) := ⟨by
            rw [HEC2.out.1, mcells_len HEC2.out.2.2]
            have h1 := cm_len (expand la) (expand lb)
            obtain ⟨_, _, e3⟩ := expand_meas HARA.out
            obtain ⟨_, _, e6⟩ := expand_meas HARB.out
            have h2 : ucomes (cm (expand la) (expand lb)) ≤ (cm (expand la) (expand lb)).length := ucomes_le _
            have h3 := HWB.out
            have h4 := HN.out
            have h5 := HW.out
            omega⟩
          have HMS : Hd (Sl wa 2 u11 M (clv (mcells 0 (expand la)))) := ⟨by have := Sl.of_own hcr.own; rw [HML.out] at this; exact this⟩
          have HBW : Hd (Below w.heap.size w wa) := ⟨bstep HB3.out hcr.bel⟩
          have HAF : Hd ((u11 = .slice none 0 0 ∧ M = 0) ∨ ∃ g c, u11 = .slice (some ⟨g, 0, none⟩) M c) := ⟨by have := own_addr hcr.own; rw [HML.out] at this; exact this⟩
          generalize mcells 0 (expand la) = ms at *
          clear hcr hua HCR
          go_wp2_with fail
          go_loopw [16, 12, 84] (fun e at_ i wq => ∃ k2 t : Nat, k2 ≤ nb ∧ i = .int .i64 k2 ∧ at_ = .int .i64 t ∧ uwas (expand (lb.take k2)) = t ∧ CR wa wq e (ecells (expand (lb.take k2)) ms) (5300 * k2)) (fun _ _ i _ => nb - (intOf i).toNat)
          case atStart => exact ⟨0, 0, by omega, rfl, rfl, rfl, by cases ms <;> exact CR.new _⟩
          case round =>
            obtain ⟨wq, rfl⟩ : ∃ W, W = wr := ⟨_, rfl⟩
            obtain ⟨k2, t, hk2, rfl, rfl, hut, hcr⟩ := hrel
            have HCR2 := Hd.mk hcr
            have hbz := hcr.bel.size
            by_cases hkn2 : k2 < nb
            · obtain ⟨b, o, c', hv, hlt, c0, c1, c2⟩ := (HB.out.below (bstep HBW.out hcr.bel)).part hkn2 (by omega)
              cases hv
              have HEX := Hd.mk (expand_take (l := lb) (k := k2) (by omega))
              have harg := HARB.out _ (List.getElem_mem (h := (by omega : k2 < lb.length)))
              have hfew := HFB.out _ (List.getElem_mem (h := (by omega : k2 < lb.length)))
              have HEA2 := Hd.mk (exp_all harg)
              have HBX := Hd.mk (hcr.box (lb[k2]'(by omega)))
              have hut2 := uwas_take lb (k2 + 1)
              rw [HUA.out.2.2] at hut2
              have hml := hcr.len
              obtain ⟨Ae, ce_, rfl⟩ := own_form hcr.own
              generalize lb[k2] = p at *
              obtain ⟨x, y, z⟩ := p
              obtain ⟨_, hx, hy⟩ := harg
              obtain ⟨hf1, hf2, hf3⟩ := hfew
              obtain ⟨x, rfl⟩ := Int.eq_ofNat_of_zero_le hx
              obtain ⟨y, rfl⟩ := Int.eq_ofNat_of_zero_le hy
              dsimp only at hf1 hf2 hf3 c0 c1 c2
              clear hx hy hcr
              have HMA : Hd (expand (lb.take (k2 + 1)) = expand (lb.take k2) ++ List.replicate x PT.k1 ++ z.map PT.byte ++ List.replicate y PT.d1 ∧ uwas (expand (lb.take (k2 + 1))) = t + x + y) := ⟨by
                rw [HEX.out, HEA2.out]
                dsimp only
                rw [Int.toNat_natCast, Int.toNat_natCast, ← List.append_assoc, ← List.append_assoc]
                refine ⟨rfl, ?_⟩
                rw [uwas_append, uwas_append, uwas_append, uwas_k, uwas_b, uwas_d, hut]; omega⟩
              rw [HMA.out.2] at hut2
              have HMB : Hd (ecells (expand (lb.take (k2 + 1))) ms = ecells (expand (lb.take k2) ++ List.replicate x PT.k1 ++ z.map PT.byte) ms) := ⟨by
                rw [HMA.out.1, ecells_append _ (by rw [uwas_append, uwas_append, uwas_k, uwas_b, hut, HML.out]; omega), ecells_d, List.append_nil]⟩
              have HE1 : Hd (ecells (expand (lb.take k2) ++ List.replicate x PT.k1) ms = ecells (expand (lb.take k2)) ms ++ (ms.drop t).take x) := ⟨by
                rw [ecells_append _ (by rw [hut, HML.out]; omega), ecells_k, hut]⟩
              have HMU := Hd.mk HMA.out.2
              generalize expand (lb.take k2) = v at *
              have HUT := Hd.mk hut
              clear hut HEX HEA2 HMA
              go_upto_region 30 with fail
              go_cut [11, 12, 16] (fun md tt e wx => md = u11 ∧ tt = .int .i64 t ∧ CQ wa wx e (ecells (v ++ List.replicate x PT.k1) ms) (5300 * k2 + x) wq.heap.size ⟨x, y, z⟩)
              case first =>
                have HMQ := Hd.mk (HMS.out.below HBX.out.cr.bel)
                have hsz := HBX.out.cr.bel.size
                have p0 := HBX.out.pb.cell 0
                simp only [List.getElem?_toArray, List.getElem?_cons_zero] at p0
                have hcl : (clv ((ms.drop t).take x)).length = x * 2 := by rw [clv_length, List.length_take, List.length_drop, HML.out]; omega
                have HCL : Hd ((ecells v ms).length + x = (ecells (v ++ List.replicate x PT.k1) ms).length ∧ clv (ecells (v ++ List.replicate x PT.k1) ms) = clv (ecells v ms) ++ clv ((ms.drop t).take x)) := ⟨by
                  rw [HE1.out, clv_append, List.length_append, List.length_take, List.length_drop, HML.out]
                  exact ⟨by omega, rfl⟩⟩
                rcases HAF.out with ⟨rfl, hM0⟩ | ⟨g, cg, rfl⟩
                · have HM0 := Hd.mk hM0
                  clear hM0
                  obtain rfl : t = 0 := by have := HM0.out; omega
                  obtain rfl : x = 0 := by have := HM0.out; omega
                  have HNIL : Hd (clv ((ms.drop 0).take 0) = []) := ⟨List.eq_nil_of_length_eq_zero hcl⟩
                  go_wp2_with (at_builtin; refine append_sl' el_cell (clv ((ms.drop 0).take 0)) (.slice none 0 0) HBX.out.cr.own (by rw [HNIL.out]; exact Sl.nil _ _) rfl rfl rfl rfl (clv_oc _) (by unfold maxLen; omega) (by omega) hsz ?_; intro v9 w9 hown9 hbel9 hgr9 hnew9; have HQ9 := Hd.mk (HBX.out.add (ms' := ecells (v ++ List.replicate 0 PT.k1) ms) (n := 0) HCL.out.1 HCL.out.2 hown9 hbel9 hgr9 hnew9); obtain ⟨A9, k9, rfl⟩ := own_form hown9; clear hown9 hbel9 hgr9 hnew9)
                  go_meet
                  case rel => exact ⟨rfl, rfl, HQ9.out⟩
                · have hsub := HMQ.out.sub (i := t) (m := x) (by omega)
                  have hcgl : M ≤ cg ∧ cg ≤ maxLen := by obtain ⟨_, c', hv, _, h, h', _⟩ := HMQ.out; cases hv; exact ⟨h, h'⟩
                  unfold maxLen at hcgl
                  by_cases hcg : t = cg
                  · obtain ⟨hs1, rfl⟩ := hsub.1 hcg
                    have HS1 := Hd.mk hs1
                    clear hsub hs1
                    subst hcg
                    go_wp2_with (at_builtin; refine append_sl' el_cell (clv ((ms.drop t).take 0)) _ HBX.out.cr.own HS1.out rfl rfl rfl rfl (clv_oc _) (by unfold maxLen; omega) (by omega) hsz ?_; intro v9 w9 hown9 hbel9 hgr9 hnew9; have HQ9 := Hd.mk (HBX.out.add (ms' := ecells (v ++ List.replicate 0 PT.k1) ms) (n := 0) HCL.out.1 HCL.out.2 hown9 hbel9 hgr9 hnew9); obtain ⟨A9, k9, rfl⟩ := own_form hown9; clear hown9 hbel9 hgr9 hnew9)
                    go_meet
                    case rel => exact ⟨rfl, rfl, HQ9.out⟩
                  · have hs1 := hsub.2
                    rw [Nat.zero_add] at hs1
                    have HS1 : Hd (Sl (wq.alloc (.cells #[.int .i64 x, .int .i64 y, .string ⟨z.toArray⟩] 81)) 2 (.slice (some ⟨g, t * 2, none⟩) (t + x - t) (cg - t)) x (clv ((ms.drop t).take x))) := ⟨by rw [Nat.add_sub_cancel_left]; exact hs1⟩
                    clear hsub hs1
                    go_wp2_with (at_builtin; refine append_sl' el_cell (clv ((ms.drop t).take x)) _ HBX.out.cr.own HS1.out rfl rfl rfl rfl (clv_oc _) (by unfold maxLen; omega) (by omega) hsz ?_; intro v9 w9 hown9 hbel9 hgr9 hnew9; have HQ9 := Hd.mk (HBX.out.add (ms' := ecells (v ++ List.replicate x PT.k1) ms) (n := x) HCL.out.1 HCL.out.2 hown9 hbel9 hgr9 hnew9); obtain ⟨A9, k9, rfl⟩ := own_form hown9; clear hown9 hbel9 hgr9 hnew9)
                    go_meet
                    case rel => exact ⟨rfl, rfl, HQ9.out⟩
              case rest =>
                obtain ⟨rfl, rfl, hcut⟩ := hcut
                have HC0 := Hd.mk hcut
                obtain ⟨Ac, cc_, rfl⟩ := own_form hcut.cr.own
                have p0 := hcut.pb.cell 0
                have p1 := hcut.pb.cell 1
                have p2 := hcut.pb.cell 2
                simp only [List.getElem?_toArray, List.getElem?_cons_zero, List.getElem?_cons_succ] at p0 p1 p2
                clear hcut HBX
                go_wp2_with fail
                go_loopw [16, 100] (fun e cnt wz => ∃ i : Nat, i ≤ z.length ∧ cnt = .int .i64 i ∧ CQ wa wz e (ecells (v ++ List.replicate x PT.k1 ++ (z.take i).map PT.byte) ms) (5300 * k2 + x + i) wq.heap.size ⟨x, y, z⟩) (fun _ cnt _ => z.length - (intOf cnt).toNat)
                case atStart => exact ⟨0, by omega, rfl, by simpa using HC0.out⟩
                case round =>
                  obtain ⟨i, hi, rfl, hcq⟩ := hrel
                  have HCZ := Hd.mk hcq
                  obtain ⟨Az, cz, rfl⟩ := own_form hcq.cr.own
                  have hml3 := hcq.cr.len
                  have p0 := hcq.pb.cell 0
                  have p1 := hcq.pb.cell 1
                  have p2 := hcq.pb.cell 2
                  have hbz3 := hcq.cr.bel.size
                  simp only [List.getElem?_toArray, List.getElem?_cons_zero, List.getElem?_cons_succ] at p0 p1 p2
                  clear hcq
                  by_cases hiz : i < z.length
                  · have HE : Hd (ecells (v ++ List.replicate x PT.k1 ++ (z.take (i + 1)).map PT.byte) ms = ecells (v ++ List.replicate x PT.k1 ++ (z.take i).map PT.byte) ms ++ [⟨-1, U.at_ z i⟩]) := ⟨by
                      rw [take_at hiz, List.map_append, List.map_cons, List.map_nil, ← List.append_assoc, ecells_append _ (by rw [uwas_append, uwas_append, uwas_k, uwas_b, HUT.out, HML.out]; omega), ecells_b]⟩
                    have e0 := fun hh => getD_at (s := z) (j := i) hiz hh
                    generalize ecells (v ++ List.replicate x PT.k1 ++ (z.take i).map PT.byte) ms = es at *
                    generalize U.at_ z i = cc at *
                    have hc256 : cc.toNat < 256 := cc.toNat_lt
                    have HCV : Hd (clv (es ++ [⟨-1, cc⟩]) = clv es ++ (#[.int .i64 (-1), .int .u8 (cc.toNat : Int)] : Array Value).toList) := ⟨by rw [clv_append, clv_one] <;> rfl⟩
                    go_wp2_with (at_builtin; refine append_lit' el_cell #[.int .i64 (-1), .int .u8 (cc.toNat : Int)] HCZ.out.cr.own rfl rfl rfl rfl (by simp) rfl (one2 rfl rfl) (by unfold maxLen; omega) (by omega) hbz3 ?_; intro v9 w9 hown9 hbel9 hgr9 hnew9; have HQ9 := Hd.mk (HCZ.out.add (ms' := es ++ [⟨-1, cc⟩]) (n := 1) (by simp) HCV.out hown9 hbel9 hgr9 hnew9); obtain ⟨A9, k9, rfl⟩ := own_form hown9; clear hown9 hbel9 hgr9 hnew9)
                    exact ⟨⟨i + 1, by omega, by go_num, by rw [HE.out]; exact HQ9.out⟩, by simp only [intOf]; omega⟩
                  · obtain rfl : i = z.length := by omega
                    have hE : ecells (v ++ List.replicate x PT.k1 ++ (z.take z.length).map PT.byte) ms = ecells (expand (lb.take (k2 + 1))) ms := by rw [List.take_length, ← HMB.out]
                    rw [hE] at HCZ hml3 ⊢
                    clear hE
                    go_wp2_with fail
                    exact ⟨⟨k2 + 1, t + x + y, by omega, by go_num, by go_num, HMU.out, ⟨HCZ.out.cr.own, HCZ.out.cr.bel, by have := HCZ.out.cr.len; omega⟩⟩, by simp only [intOf]; omega⟩
            · obtain rfl : k2 = nb := by omega
              rw [show lb.take k2 = lb from by rw [← hlb, List.take_length]] at hcr hut HCR2
              have HBW2 : Hd (Below w.heap.size w wq) := ⟨bstep HBW.out hcr.bel⟩
              have HES : Hd (Sl wq 2 u16 (ecells (expand lb) ms).length (clv (ecells (expand lb) ms))) := ⟨Sl.of_own hcr.own⟩
              rw [HEC2.out.1] at hcr HCR2 HES HUL
              have HASC := Hd.mk (mcells_asc HEC2.out.2.2 0 0 N (Nat.le_refl _) (by rw [HEC2.out.2.1]; omega))
              have HGE : Hd (gather (gaps N (mcells 0 (cm (expand la) (expand lb)))) = urun (cm (expand la) (expand lb))) := ⟨by
                have := gaps_eq HEC2.out.2.2
                rw [HEC2.out.2.1] at this
                exact this⟩
              obtain ⟨Ae, ce_, rfl⟩ := own_form hcr.own
              clear hcr hut HCR2 HMS HAF HBW
              generalize cm (expand la) (expand lb) = U at *
              generalize mcells 0 U = E at *
              have hEl := HUL.out
              have hm1 := make_strs (N + 1) (by omega) ((N : Int) + 1) (by omega)
              have hm2 := make_bools N (by omega) (N : Int) rfl
              go_upto_region 35 with fail
              go_cut [20] (fun s5 wx => GCut wq N s5 wx)
              case first =>
                go_region
                all_goals
                  go_wp2_with fail
                  go_meet
                  first
                    | (obtain ⟨x1, x2, x3⟩ := blk3 wq 9 4 88 (madeS (N + 1)) (madeB N) _
                       exact ⟨_, _, _, rfl, ⟨x3, x1, x2⟩, by omega, ex_drew (ex_alloc (ex_alloc (ex_alloc (Below.refl _ _) _) _) _)⟩)
                    | (obtain ⟨x1, x2, x3⟩ := blk3 wq 9 88 4 (madeS (N + 1)) _ (madeB N)
                       exact ⟨_, _, _, rfl, ⟨x2, x1, x3⟩, by omega, ex_drew (ex_alloc (ex_alloc (ex_alloc (Below.refl _ _) _) _) _)⟩)
                    | (obtain ⟨x1, x2, x3⟩ := blk3 wq 4 9 88 (madeB N) (madeS (N + 1)) _
                       exact ⟨_, _, _, rfl, ⟨x3, x2, x1⟩, by omega, ex_drew (ex_alloc (ex_alloc (ex_alloc (Below.refl _ _) _) _) _)⟩)
                    | (obtain ⟨x1, x2, x3⟩ := blk3 wq 4 88 9 (madeB N) _ (madeS (N + 1))
                       exact ⟨_, _, _, rfl, ⟨x2, x3, x1⟩, by omega, ex_drew (ex_alloc (ex_alloc (ex_alloc (Below.refl _ _) _) _) _)⟩)
                    | (obtain ⟨x1, x2, x3⟩ := blk3 wq 88 9 4 _ (madeS (N + 1)) (madeB N)
                       exact ⟨_, _, _, rfl, ⟨x1, x2, x3⟩, by omega, ex_drew (ex_alloc (ex_alloc (ex_alloc (Below.refl _ _) _) _) _)⟩)
                    | (obtain ⟨x1, x2, x3⟩ := blk3 wq 88 4 9 _ (madeB N) (madeS (N + 1))
                       exact ⟨_, _, _, rfl, ⟨x1, x3, x2⟩, by omega, ex_drew (ex_alloc (ex_alloc (ex_alloc (Below.refl _ _) _) _) _)⟩)
              case rest =>
                obtain ⟨gG, gP, gD, rfl, hgb, ⟨hge1, hge2, hge3⟩, hbel0⟩ := hcut
                have HB0 := Hd.mk hbel0
                have HG0 : Hd (GB wc gG gP gD N (SS.zero.padP N) (List.replicate 0 true ++ List.replicate (N - 0) false)) := ⟨by
                  have : SS.zero.padD N = List.replicate 0 true ++ List.replicate (N - 0) false := by simp [SS.padD, SS.D, SS.zero]
                  rw [← this]; exact hgb⟩
                obtain ⟨g0, g1⟩ := hgb.cells
                clear hgb hbel0 hm1 hm2
                go_wp2_with fail
                go_loopw [129] (fun i wx => ∃ j : Nat, j ≤ N ∧ i = .int .i64 j ∧ GB wx gG gP gD N (SS.zero.padP N) (List.replicate j true ++ List.replicate (N - j) false) ∧ Below wq.heap.size wq wx) (fun i _ => N - (intOf i).toNat)
                case atStart => exact ⟨0, by omega, rfl, HG0.out, HB0.out⟩
                case round =>
                  obtain ⟨wx, rfl⟩ : ∃ W, W = wr := ⟨_, rfl⟩
                  obtain ⟨j, hj, rfl, hgb, hbel⟩ := hrel
                  have HGB := Hd.mk hgb
                  have HBB := Hd.mk hbel
                  obtain ⟨g0, g1⟩ := hgb.cells
                  by_cases hjN : j < N
                  · obtain ⟨d0, d1⟩ := hgb.cellD (i := j) (b := false) (by rw [List.getElem?_append_right (by simp), List.length_replicate, Nat.sub_self, List.getElem?_replicate, if_pos (by omega)])
                    have HSET : Hd (List.replicate (j + 1) true ++ List.replicate (N - (j + 1)) false = (List.replicate j true ++ List.replicate (N - j) false).set j true) := ⟨by
                      obtain ⟨r, hr⟩ : ∃ r, N - j = r + 1 := ⟨N - j - 1, by omega⟩
                      rw [hr, set_true, show N - (j + 1) = r from by omega]⟩
                    have hlD := hgb.D.lt
                    clear hgb hbel HG0 HB0
                    go_wp2_with fail
                    exact ⟨⟨j + 1, by omega, by go_num, by rw [HSET.out]; exact HGB.out.setD _ _, HBB.out.setCell (show wq.heap.size ≤ gD by omega) _⟩, by simp only [intOf]; omega⟩
                  · obtain rfl : j = N := by omega
                    have HG1 : Hd (GB wx gG gP gD j (SS.zero.padP j) (SS.zero.padT j)) := ⟨by
                      have : SS.zero.padT j = List.replicate j true ++ List.replicate (j - j) false := by simp [SS.padT, SS.D, SS.zero]
                      rw [this]; exact hgb⟩
                    clear hgb hbel HG0 HB0 HGB
                    go_wp2_with fail
                    go_loopw [22, 139] (fun last i wy => ∃ i2 t : Nat, i2 ≤ E.length ∧ i = .int .i64 i2 ∧ last = .int .i64 t ∧ ((E.take i2).foldl SS.cell .zero).l.length = t ∧ t ≤ j ∧ Asc j t (E.drop i2) ∧ GB wy gG gP gD j (((E.take i2).foldl SS.cell .zero).padP j) (((E.take i2).foldl SS.cell .zero).padT j) ∧ Below wq.heap.size wq wy) (fun _ i _ => E.length - (intOf i).toNat)
                    case atStart => exact ⟨0, 0, by omega, rfl, rfl, rfl, by omega, HASC.out, HG1.out, HBB.out⟩
                    case round =>
                      obtain ⟨wy, rfl⟩ : ∃ W, W = wr := ⟨_, rfl⟩
                      obtain ⟨i2, t, hi2, rfl, rfl, hlen, htj, hasc, hgb, hbel⟩ := hrel
                      have HGB := Hd.mk hgb
                      have HBY := Hd.mk hbel
                      have HAS := Hd.mk hasc
                      obtain ⟨g0, g1⟩ := hgb.cells
                      have hlG := hgb.G.lt
                      have hlP := hgb.P.lt
                      have hlD := hgb.D.lt
                      have hlq := hbel.size
                      clear HG1
                      by_cases hiE : i2 < E.length
                      · obtain ⟨b, o, c', hv, hlt, c0, c1⟩ := (HES.out.below hbel).cl hiE hiE
                        cases hv
                        have HS : Hd ((E.take (i2 + 1)).foldl SS.cell .zero = ((E.take i2).foldl SS.cell .zero).cell E[i2]) := ⟨by rw [List.take_succ_eq_append_getElem hiE, List.foldl_append]; rfl⟩
                        have hpl := plg_cells (E.take i2) .zero
                        have hel := e_le_plg ((E.take i2).foldl SS.cell .zero)
                        have hz0 : plg SS.zero = 0 := rfl
                        rw [List.length_take] at hpl
                        have has2 := hasc
                        rw [List.drop_eq_getElem_cons hiE] at has2
                        generalize (E.take i2).foldl SS.cell .zero = S at *
                        generalize E[i2] = x at *
                        obtain ⟨f, cc⟩ := x
                        dsimp only at c0 c1
                        have hc256 : cc.toNat < 256 := cc.toNat_lt
                        clear hgb hbel hasc
                        subst hlen
                        by_cases hf : f < 0
                        · rw [Asc, if_pos hf] at has2
                          have HA2 := Hd.mk has2
                          have HSC : Hd ((E.take (i2 + 1)).foldl SS.cell .zero = ⟨S.l, S.e ++ [cc]⟩) := ⟨by rw [HS.out, SS.cell_put hf]⟩
                          obtain ⟨q0, q1⟩ := HGB.out.cellP (SS.padP_at (S := S) (N := j))
                          have hcv := conv_new (P := Tryd.prog) (l := [cc]) Tryd.underlying104 Tryd.underlying5 Tryd.underlying9 ((wy.alloc (.cells #[.int .i64 f, .int .u8 (cc.toNat : Int)] 103)).drew) #[.int .u8 (cc.toNat : Int)] 1 rfl rfl (by unfold maxLen; omega)
                          have hcz : ((wy.alloc (.cells #[.int .i64 f, .int .u8 (cc.toNat : Int)] 103)).drew).heap.size = wy.heap.size + 1 := by
                            show (wy.alloc _).heap.size = _
                            rw [World.size_alloc]
                          rw [hcz] at hcv
                          replace hcv : (convert 104 9 (.slice (some ⟨wy.heap.size + 1, 0, none⟩) 1 1)).run Tryd.prog (((wy.alloc (.cells #[.int .i64 f, .int .u8 (cc.toNat : Int)] 103)).alloc (.cells #[.int .u8 (cc.toNat : Int)] 5)).drew) = .ok (.string ⟨[cc].toArray⟩) (((wy.alloc (.cells #[.int .i64 f, .int .u8 (cc.toNat : Int)] 103)).alloc (.cells #[.int .u8 (cc.toNat : Int)] 5)).drew) := hcv
                          clear hcz
                          clear has2
                          go_upto_region 49 with fail
                          go_region
                          all_goals
                            go_wp2_with fail
                            exact ⟨⟨i2 + 1, S.l.length, by omega, by go_num, rfl, by rw [HSC.out], htj, HA2.out, by rw [HSC.out, ← SS.padP_put]; exact (((HGB.out.setP _ _).alloc _).alloc _).drew, ex_drew (ex_alloc (ex_alloc (HBY.out.setCell (show wq.heap.size ≤ gP by omega) _) _) _)⟩, by simp only [intOf]; omega⟩
                        · rw [Asc, if_neg hf] at has2
                          obtain ⟨hf1, hf2, hf3⟩ := has2
                          obtain ⟨f, rfl⟩ := Int.eq_ofNat_of_zero_le (show 0 ≤ f by omega)
                          dsimp only at hf1 hf2 hf3
                          rw [Int.toNat_natCast] at hf3
                          have HA2 := Hd.mk hf3
                          have HSC : Hd ((E.take (i2 + 1)).foldl SS.cell .zero = SS.take false 1 (SS.take true (f - S.l.length) S)) := ⟨by rw [HS.out, SS.cell_text (by dsimp only; omega)]; rfl⟩
                          have hpd : ∃ bb, (S.padT j)[f]? = some bb := ⟨_, List.getElem?_eq_getElem (by rw [SS.padT_len _ _ htj]; omega)⟩
                          obtain ⟨bb, hbb⟩ := hpd
                          obtain ⟨d0, d1⟩ := HGB.out.cellD hbb
                          have HE : Hd ((SS.take false 1 (SS.take true (f - S.l.length) S)).padP j = S.padP j ∧ (SS.take false 1 (SS.take true (f - S.l.length) S)).padT j = (S.padT j).set f false ∧ (SS.take false 1 (SS.take true (f - S.l.length) S)).l.length = f + 1) := ⟨by
                            refine ⟨?_, (SS.padT_set (by omega) (by omega)).symm, by rw [SS.take_len, SS.take_len]; omega⟩
                            rw [SS.padP_take false (by rw [SS.take_len]; omega), SS.padP_take true (by omega)]⟩
                          clear hf3 hbb
                          go_wp2_with fail
                          exact ⟨⟨i2 + 1, f + 1, by omega, by go_num, by go_num, by rw [HSC.out, HE.out.2.2], by omega, HA2.out, by rw [HSC.out, HE.out.1, HE.out.2.1]; exact (HGB.out.setD _ _).alloc _, ex_alloc (HBY.out.setCell (show wq.heap.size ≤ gD by omega) _) _⟩, by simp only [intOf]; omega⟩
                      · obtain rfl : i2 = E.length := by omega
                        rw [List.take_length] at hlen HGB
                        have hfl := SS.full_len (E.foldl SS.cell .zero) j (by omega)
                        have HGP : Hd (Sl wy 1 (.slice (some ⟨gP, 0, none⟩) (j + 1) (j + 1)) (j + 1) (strs (gaps j E).P)) := ⟨by
                          have h1 := HGB.out.P
                          have h2 : (gaps j E).P = (E.foldl SS.cell .zero).padP j := SS.full_P _ _
                          rw [← h2] at h1
                          exact Sl.of_blk h1 (by unfold strs; rw [List.length_map, SS.P_length]; exact congrArg (· + 1) hfl) (by unfold maxLen; omega)⟩
                        have HGD : Hd (Sl wy 1 (.slice (some ⟨gD, 0, none⟩) j j) j (bools (gaps j E).D)) := ⟨by
                          have h1 := HGB.out.D
                          have h2 : (gaps j E).D = (E.foldl SS.cell .zero).padT j := SS.full_D _ _
                          rw [← h2] at h1
                          exact Sl.of_blk h1 (by unfold bools; rw [List.length_map, SS.D_length]; exact hfl) (by unfold maxLen; omega)⟩
                        have hpg := plg_gaps j E
                        clear hgb hbel hasc hlen hfl HGB
                        go_wp2_with fail
                        refine (gather_calls HGP.out HGD.out (by omega) (by omega)).mono ?_
                        rintro e w11 ⟨⟨v11, rfl, hs11⟩, hb11⟩
                        rw [HGE.out] at hs11
                        have HB11 := Hd.mk (bstep (bstep HBW2.out HBY.out) hb11)
                        have HS11 := Hd.mk hs11
                        clear hb11 hs11
                        go_wp2_with fail
                        go_ret2
                        exact ⟨HB11.out, _, by rw [HTC.out] <;> rfl, fun _ => HS11.out, fun h => absurd HTC.out h⟩
    · have HTC : Hd (cmc la lb = 2) := ⟨by unfold cmc; rw [if_pos H0.out, if_neg (by rw [HM.out]; exact fun e => hw e.symm)]⟩
      have hw' : (was lb == (M : Int)) = false := by rw [beq_eq_false_iff_ne]; exact hw
      clear hw
      go_wp2_with fail
      go_ret2
      exact ⟨HB3.out, .slice none 0 0, by rw [HTC.out] <;> rfl, fun h => by rw [HTC.out] at h; exact absurd h (by decide), fun _ => rfl⟩
  · have HTC : Hd (cmc la lb = chk2 la lb) := ⟨by unfold cmc; rw [if_neg h0]⟩
    have H0 := Hd.mk h0
    have h0' : (chk2 la lb == 0) = false := by rw [beq_eq_false_iff_ne]; exact h0
    clear h0
    generalize chk2 la lb = z at *
    go_wp2_with fail
    go_ret2
    exact ⟨HB1.out, .slice none 0 0, by rw [HTC.out] <;> rfl, fun h => by rw [HTC.out] at h; exact absurd h H0.out, fun _ => rfl⟩
end
end Go.Proofs.YthbhhnfhjppbdaaDoor
