/- ops.Transform. -/
import Derived.Test.YthbhhnfhjppbdaaDoorOpX
import Derived.Test.YthbhhnfhjppbdaaDoorOpsCheckW
namespace Go.Proofs.YthbhhnfhjppbdaaDoor
open Go.RowKit
set_option maxRecDepth 100000
theorem tok_bd {l : List PT} {a : Nat} (h : Tok l a) (hb : Tbd l) : a ≤ 4611686018427387903 := by
  cases l with
  | nil => have : a = 0 := h.2; omega
  | cons p l =>
    have h1 : a ≤ p.size := h.2
    obtain ⟨b1, b2, b3⟩ := hb p (by simp)
    rcases (h.1 p (by simp)).cases with ⟨b, hb, rfl⟩ | ⟨n, hn, rfl⟩ | ⟨n, hn, rfl⟩
    · rw [size_put] at h1; dsimp only at b1; omega
    · rw [size_drop] at h1; dsimp only at b3; omega
    · rw [size_keep] at h1; dsimp only at b2; omega
theorem tbd_sub {l l2 : List PT} (h : Tbd l) (hm : ∀ q ∈ l2, q ∈ l) : Tbd l2 := fun p hp => h p (hm p hp)
/-- An operation, or what is wrong. -/
def TrRes (c : Int) (U : List PT) (w : World) (e : Ending) (w' : World) : Prop :=
  Below w.heap.size w w' ∧ ∃ v, e = .returned (.tuple #[v, errOf c]) ∧ (c = 0 → Sl w' 3 v (urun U).length (opv (urun U))) ∧ (c ≠ 0 → v = .slice none 0 0)
/-- What Transform tells. -/
noncomputable def trc (a b : List PT) : Int := if chk2 a b = 0 then (if was a = was b then 0 else 2) else chk2 a b
theorem chk2_good {a b : List PT} (h : chk2 a b = 0) : (∀ p ∈ a, p.Good) ∧ (∀ p ∈ b, p.Good) := by
  unfold chk2 at h
  split at h
  · rename_i h1; exact ⟨chk_good h1, chk_good h⟩
  · rename_i h1; exact absurd h h1
theorem wrap_id {a : Int} (h : 0 ≤ a) (h2 : a ≤ 1000000) : wrap64 a = a := by unfold wrap64; omega
/-- A round's relation. -/
structure TRr (U : List PT) (T : Nat) (f : List PT → List PT → List PT) (m1 m2 : List PT → Nat) (A B : List PT) (W0 wr : World) (gx gy : Nat) (gk : Nat) (vx : Value) (nx : Nat) (lx : List PT) (ax : Nat) (vy : Value) (ny : Nat) (ly : List PT) (ay : Nat) (vo : Value) (out : List PT) : Prop where
  ti : TI W0 wr gx gy vx nx lx ax vy ny ly ay vo out
  arg : ∀ p ∈ out, p.arg
  eq : expand out ++ f (tape lx ax) (tape ly ay) = U
  bal : m1 (tape lx ax) = m2 (tape ly ay)
  hgk : gk = (tape lx ax).length + (tape ly ay).length
  len : out.length + gk ≤ T
  mx : ∀ q ∈ lx, q ∈ A
  my : ∀ q ∈ ly, q ∈ B
theorem Nx.arg_ {u : List PT} {p : PT} {s : Bool} (h : Nx u p s) (hs : s = true) : p.arg ∧ (p.size : Int) = p.keep + p.drop + p.put.length ∧ p.size ≤ u.length := by
  rcases h with ⟨_, ha, r, rfl⟩ | ⟨h, _⟩
  · exact ⟨ha, (exp_meas ha).2.2, by rw [List.length_append]; unfold PT.size; omega⟩
  · subst hs; exact absurd h (by decide)
theorem tok_zero {l : List PT} (h : ∀ p ∈ l, p.arg) : Tok l 0 := ⟨h, by cases l with | nil => rfl | cons => exact Nat.zero_le _⟩
theorem TRr.step {U : List PT} {T : Nat} {f : List PT → List PT → List PT} {m1 m2 : List PT → Nat} {A B : List PT} {W0 wr w' : World} {gx gy gk nx ax ny ay nx2 ax2 ny2 ay2 i j : Nat} {vx vy vo vx2 vy2 vo2 : Value} {lx ly out lx2 ly2 out' : List PT}
    (h : TRr U T f m1 m2 A B W0 wr gx gy gk vx nx lx ax vy ny ly ay vo out) (hti : TI W0 w' gx gy vx2 nx2 lx2 (ax2 + i) vy2 ny2 ly2 (ay2 + j) vo2 out') (harg : ∀ p ∈ out', p.arg)
    (heq : expand out' ++ f ((tape lx ax).drop i) ((tape ly ay).drop j) = expand out ++ f (tape lx ax) (tape ly ay)) (hbal : m1 ((tape lx ax).drop i) = m2 ((tape ly ay).drop j))
    (hi : i ≤ (tape lx ax).length) (hj : j ≤ (tape ly ay).length) (hij : 0 < i + j) (hlen : out'.length ≤ out.length + 1) (hp1 : tape lx2 ax2 = tape lx ax) (hp2 : tape ly2 ay2 = tape ly ay)
    (hm1 : ∀ q ∈ lx2, q ∈ lx) (hm2 : ∀ q ∈ ly2, q ∈ ly) : ((tape lx ax).length - i + ((tape ly ay).length - j)) < gk ∧ TRr U T f m1 m2 A B W0 w' gx gy ((tape lx ax).length - i + ((tape ly ay).length - j)) vx2 nx2 lx2 (ax2 + i) vy2 ny2 ly2 (ay2 + j) vo2 out' := by
  have e1 : tape lx2 (ax2 + i) = (tape lx ax).drop i := by rw [tape_take, hp1]
  have e2 : tape ly2 (ay2 + j) = (tape ly ay).drop j := by rw [tape_take, hp2]
  have hg := h.hgk
  have hl := h.len
  refine ⟨by omega, hti, harg, ?_, ?_, ?_, by omega, fun q hq => h.mx q (hm1 q hq), fun q hq => h.my q (hm2 q hq)⟩
  · rw [e1, e2, heq, h.eq]
  · rw [e1, e2, hbal]
  · rw [e1, e2, List.length_drop, List.length_drop]
theorem snoc_arg {out : List PT} {p : PT} (h : ∀ q ∈ out, q.arg) (hp : p.arg) : ∀ q ∈ out ++ [p], q.arg := by
  intro q hq
  rw [List.mem_append] at hq
  rcases hq with hq | hq
  · exact h q hq
  · obtain rfl := List.mem_singleton.1 hq
    exact hp
section
attribute [local go_sem] add_mk
set_option maxHeartbeats 16000000 in
theorem otrans_calls {la lb : List PT} {va vb : Value} {na nb : Nat} {first : Bool} {w : World} (hg : Hdl w) (ha : Sl w 3 va na (opv la)) (hb : Sl w 3 vb nb (opv lb)) (hfa : Few la) (hfb : Few lb) (hna : na ≤ 100) (hnb : nb ≤ 100) :
    Calls Tryd.prog 10 #[va, vb, .bool first] w (TrRes (trc la lb) (tr first (expand (norm la)) (expand (norm lb))) w) := by
  have hla : la.length = na := by have := ha.len; rw [opv_length] at this; omega
  have hlb : lb.length = nb := by have := hb.len; rw [opv_length] at this; omega
  have HG := Hd.mk hg
  have HA := Hd.mk ha
  have HB := Hd.mk hb
  have HFA := Hd.mk hfa
  have HFB := Hd.mk hfb
  obtain ⟨A1, c1, rfl, -⟩ := ha
  obtain ⟨A2, c2, rfl, -⟩ := hb
  clear hg hfa hfb
  go_enter Tryd.func10, Tryd.ntmps10
  go_wp2_with fail
  refine (checked_calls HG.out HA.out HB.out (fun p h => by have := (HFA.out p h).1; omega) (fun p h => by have := (HFB.out p h).1; omega)).mono ?_
  rintro e w1 ⟨rfl, hb1⟩
  have HB1 := Hd.mk hb1
  clear hb1
  by_cases h0 : chk2 la lb = 0
  · obtain ⟨ga, gb⟩ := chk2_good h0
    have harga : ∀ p ∈ la, p.arg := fun p hp => (ga p hp).1
    have hargb : ∀ p ∈ lb, p.arg := fun p hp => (gb p hp).1
    obtain ⟨f1, f2, f3⟩ := few_bd HFA.out harga
    obtain ⟨f4, f5, f6⟩ := few_bd HFB.out hargb
    have ea := wrap_id f3 (by omega)
    have eb := wrap_id f6 (by omega)
    have HEA := Hd.mk ea
    have HEB := Hd.mk eb
    have HARA := Hd.mk harga
    have HARB := Hd.mk hargb
    have HWA : Hd (was la ≤ 1000000 ∧ plen la ≤ 30000 ∧ 0 ≤ was la) := ⟨by omega, by omega, f3⟩
    have HWB : Hd (was lb ≤ 1000000 ∧ plen lb ≤ 30000 ∧ 0 ≤ was lb) := ⟨by omega, by omega, f6⟩
    rw [h0, errOf_zero]
    have H0 := Hd.mk h0
    clear h0 ga gb harga hargb f1 f2 f3 f4 f5 f6 ea eb
    go_wp2_with fail
    refine (olens_calls (HA.out.below HB1.out)).mono ?_
    rintro e w2 ⟨he, hb2⟩
    rw [HEA.out] at he
    subst he
    have HB2 := Hd.mk (bstep HB1.out hb2)
    clear hb2
    go_wp2_with fail
    refine (olens_calls (HB.out.below HB2.out)).mono ?_
    rintro e w3 ⟨he, hb3⟩
    rw [HEB.out] at he
    subst he
    have HB3 := Hd.mk (bstep HB2.out hb3)
    clear hb3
    by_cases hw : was la = was lb
    · have HTC : Hd (trc la lb = 0) := ⟨by unfold trc; rw [if_pos H0.out, if_pos hw]⟩
      have HW := Hd.mk hw
      have hw' : (was lb == was la) = true := by rw [hw]; exact beq_self _
      clear hw
      go_wp2_with fail
      refine (norm_calls (HA.out.below HB3.out) HARA.out (by have := HWA.out; omega) (by have := HWA.out; omega) (by omega)).mono ?_
      rintro e w4 ⟨⟨v4, rfl, hs4⟩, hb4⟩
      have HB4 := Hd.mk (bstep HB3.out hb4)
      have HS4 := Hd.mk hs4
      obtain ⟨A4, c4, rfl, -⟩ := hs4
      clear hb4
      go_wp2_with fail
      have hx5 : Below w4.heap.size w4 (w4.alloc (.cells #[.slice A4 (norm la).length c4, .int .i64 0] 97)) := ex_alloc (Below.refl _ _) _
      refine (norm_calls (HB.out.below (bstep HB4.out hx5)) HARB.out (by have := HWB.out; omega) (by have := HWB.out; omega) (by omega)).mono ?_
      rintro e w6 ⟨⟨v6, rfl, hs6⟩, hb6⟩
      have HB6 := Hd.mk (bstep (bstep HB4.out hx5) hb6)
      have HX6 := Hd.mk ((Blk.new w4 97 #[.slice A4 (norm la).length c4, .int .i64 0]).below hb6 (by simp))
      have HS5 := Hd.mk ((HS4.out.below hx5).below hb6)
      have HS6 := Hd.mk hs6
      have hz46 : w4.heap.size < w6.heap.size := by have := hb6.size; simp at this; omega
      obtain ⟨A6, c6, rfl, -⟩ := hs6
      clear hb6 hx5
      obtain ⟨no1, no2, no3⟩ := norm_ok HARA.out
      obtain ⟨no4, no5, no6⟩ := norm_ok HARB.out
      have HTI : Hd (TI (w6.alloc (.cells #[.slice A6 (norm lb).length c6, .int .i64 0] 97)) (w6.alloc (.cells #[.slice A6 (norm lb).length c6, .int .i64 0] 97)) w4.heap.size w6.heap.size (.slice A4 (norm la).length c4) (norm la).length (norm la) 0 (.slice A6 (norm lb).length c6) (norm lb).length (norm lb) 0 (.slice none 0 0) []) :=
        ⟨HX6.out.alloc _, Blk.new _ _ _, HS5.out.below (ex_alloc (Below.refl _ _) _), HS6.out.below (ex_alloc (Below.refl _ _) _), tok_zero no1, tok_zero no4, World.ownsRow_nil _ _ _ _, Only.refl _ _⟩
      have HTG : Hd (TG (w6.alloc (.cells #[.slice A6 (norm lb).length c6, .int .i64 0] 97)) w4.heap.size w6.heap.size) := ⟨⟨⟨_, _, HX6.out.alloc _⟩, ⟨_, _, Blk.new _ _ _⟩, by omega⟩⟩
      have HB7 : Hd (Below w.heap.size w (w6.alloc (.cells #[.slice A6 (norm lb).length c6, .int .i64 0] 97))) := ⟨ex_alloc HB6.out _⟩
      obtain ⟨em1, em2, em3⟩ := expand_meas no1
      obtain ⟨em4, em5, em6⟩ := expand_meas no4
      have HTR : Hd (∃ T, T ≤ 4000000 ∧ TRr (tr first (expand (norm la)) (expand (norm lb))) T (tr first) uwas uwas (norm la) (norm lb) (w6.alloc (.cells #[.slice A6 (norm lb).length c6, .int .i64 0] 97)) (w6.alloc (.cells #[.slice A6 (norm lb).length c6, .int .i64 0] 97)) w4.heap.size w6.heap.size T (.slice A4 (norm la).length c4) (norm la).length (norm la) 0 (.slice A6 (norm lb).length c6) (norm lb).length (norm lb) 0 (.slice none 0 0) []) := ⟨by
        have h1 := HWA.out
        have h2 := HWB.out
        have h3 := HW.out
        refine ⟨(expand (norm la)).length + (expand (norm lb)).length, by omega, HTI.out, fun p hp => by simp at hp, by simp [tape, expand_nil], ?_, by simp [tape], by simp, fun q hq => hq, fun q hq => hq⟩
        simp only [tape, List.drop_zero]
        omega⟩
      have HTX : Hd (Tbd (norm la)) := ⟨tbd_of no1 (by have := HWA.out; omega) (by have := HWA.out; omega)⟩
      have HTY : Hd (Tbd (norm lb)) := ⟨tbd_of no4 (by have := HWB.out; omega) (by have := HWB.out; omega)⟩
      have HUL : Hd ((tr first (expand (norm la)) (expand (norm lb))).length ≤ 4000000) := ⟨by have := tr_len first (expand (norm la)) (expand (norm lb)); have h1 := HWA.out; have h2 := HWB.out; omega⟩
      clear no1 no2 no3 no4 no5 no6 em1 em2 em3 em4 em5 em6
      generalize tr first (expand (norm la)) (expand (norm lb)) = U at *
      obtain ⟨T, hT, htr⟩ := HTR.out
      have HTR0 := Hd.mk htr
      have HW0 := Hd.mk hT
      clear htr HTR HTI
      go_wp2_with fail
      generalize (w6.alloc (.cells #[.slice A6 (norm lb).length c6, .int .i64 0] 97)) = W0 at *
      go_loopg [13] T (fun gk so wr => ∃ vx nx lx ax vy ny ly ay out, TRr U T (tr first) uwas uwas (norm la) (norm lb) W0 wr w4.heap.size w6.heap.size gk vx nx lx ax vy ny ly ay so out)
      case atStart => exact ⟨_, _, _, _, _, _, _, _, _, HTR0.out⟩
      case round =>
        obtain ⟨vx, nx, lx, ax, vy, ny, ly, ay, out, hrr⟩ := hrel
        have HRR := Hd.mk hrr
        obtain ⟨Ao, co, rfl⟩ := own_form hrr.ti.own
        clear hrr
        go_wp2_with fail
        refine (tnext_calls (HRR.out.ti.px HTG.out) (tbd_sub HTX.out HRR.out.mx)).mono ?_
        rintro e w7 ⟨vx2, nx2, lx2, ax2, ⟨pk, pd, pb⟩, s, rfl, ht1, htp1, hnx1, htok1, hmem1, htr1, ho1⟩
        have HT1 := Hd.mk (HRR.out.ti.nx_ HTG.out ht1 htr1 ho1)
        have HP1 := Hd.mk htp1
        have HN1 := Hd.mk hnx1
        have HK1 := Hd.mk htok1
        have HM1 := Hd.mk hmem1
        have hz7 := ho1.size
        clear ht1 htp1 hnx1 htok1 hmem1 htr1 ho1
        dsimp only
        go_wp2_with fail
        refine (tnext_calls ((HT1.out.alloc _).py HTG.out) (tbd_sub HTY.out HRR.out.my)).mono ?_
        rintro e w8 ⟨vy2, ny2, ly2, ay2, ⟨qk, qd, qb⟩, t, rfl, ht2, htp2, hnx2, htok2, hmem2, htr2, ho2⟩
        have HT2 := Hd.mk ((HT1.out.alloc _).ny_ HTG.out ht2 htr2 ho2)
        have HP2 := Hd.mk htp2
        have HN2 := Hd.mk hnx2
        have HK2 := Hd.mk htok2
        have HM2 := Hd.mk hmem2
        have HO2 := Hd.mk ho2
        clear ht2 htp2 hnx2 htok2 hmem2 htr2 ho2
        dsimp only
        have hgx : w.heap.size ≤ w4.heap.size := HB4.out.size
        have hgl := HTG.out.ltx
        have hgl2 := HTG.out.lty
        have hz8 := HO2.out.size
        simp only [World.size_alloc] at hz8
        have hW0r := HRR.out.ti.only.size
        have hown0 : ∀ k, (Value.slice Ao out.length co).ownBlock = some k → k < wr.heap.size := fun k hk => (HRR.out.ti.own.lt k hk).2
        have hlen0 := HRR.out.len
        have hT0 := HW0.out
        have hpb := (Blk.new w7 81 #[.int .i64 pk, .int .i64 pd, .string ⟨pb.toArray⟩]).only HO2.out (show ¬ w7.heap.size = w6.heap.size by omega)
        have HPB := Hd.mk hpb
        have p0 := hpb.cell 0
        have p1 := hpb.cell 1
        have p2 := hpb.cell 2
        simp only [List.getElem?_toArray, List.getElem?_cons_zero, List.getElem?_cons_succ] at p0 p1 p2
        have hgp : w7.heap.size < w8.heap.size := by omega
        have HL1 : Hd (out.length + 1 ≤ maxLen) := ⟨by unfold maxLen; omega⟩
        have HL2 : Hd ((out.length + 1) * 32 ≤ 140737488355328) := ⟨by omega⟩
        have HL3 : Hd (W0.heap.size ≤ w8.heap.size + 1) := ⟨by omega⟩
        have HAX := Hd.mk (tok_bd HT2.out.ox (tbd_sub HTX.out (fun q hq => HRR.out.mx q (HM1.out q hq))))
        have HAY := Hd.mk (tok_bd HT2.out.oy (tbd_sub HTY.out (fun q hq => HRR.out.my q (HM2.out q hq))))
        clear hpb
        by_cases hpb0 : pb = []
        · subst hpb0
          by_cases hqb0 : qb = []
          · subst hqb0
            by_cases hst : s = true ∨ t = true
            · skip
              obtain ⟨m, hm0, hmin, hmx, hmy, hbal, hq1, hq2, hq3⟩ := tr_s3 (first := first) (out := out) HN1.out HN2.out rfl rfl HRR.out.bal hst
              have hs1 : s = true := by
                rcases HN1.out with ⟨h, _⟩ | ⟨_, h, _⟩
                · exact h
                · cases h; simp at hmin; omega
              have ht1 : t = true := by
                rcases HN2.out with ⟨h, _⟩ | ⟨_, h, _⟩
                · exact h
                · cases h; simp at hmin; omega
              subst hs1 ht1
              obtain ⟨hpa, hsz1, hsx⟩ := HN1.out.arg_ rfl
              obtain ⟨hqa, hsz2, hsy⟩ := HN2.out.arg_ rfl
              obtain ⟨_, hk0, hd0⟩ := hpa
              obtain ⟨_, hk1, hd1⟩ := hqa
              dsimp only [List.length_nil] at hmin hsz1 hsz2 hk0 hd0 hk1 hd1 hq1 hq2 hq3
              have hgk := HRR.out.hgk
              have hb1 : pk ≤ 4000000 := by omega
              have hb2 : pd ≤ 4000000 := by omega
              have hb3 : qk ≤ 4000000 := by omega
              have hb4 : qd ≤ 4000000 := by omega
              have HTK := Hd.mk (HK1.out m (by omega))
              have HTL := Hd.mk (HK2.out m (by omega))
              have HQ1 := Hd.mk hq1
              have HQ2 := Hd.mk hq2
              have HQ3 := Hd.mk hq3
              have HBAL := Hd.mk hbal
              have HMIN := Hd.mk hmin
              clear hq1 hq2 hq3 hbal hst hmin hsz1 hsz2 hsx hsy
              go_upto_region 13 with fail
              have e20 : (if qk + qd < pk + pd then qk + qd else pk + pd) = (m : Int) := by have := HMIN.out; split <;> omega
              have hm1 : m ≤ 4611686018427387903 := by omega
              have HMX := Hd.mk hmx
              have HMY := Hd.mk hmy
              rw [e20]
              clear e20
              by_cases hqk : 0 < qk
              · by_cases hpk : 0 < pk
                · have HE := Hd.mk (HQ1.out hqk hpk)
                  go_wp2_with (at_builtin; refine append_lit' el_part #[.int .i64 (m : Int), .int .i64 0, .string ⟨#[]⟩] (HT2.out.alloc _).own rfl rfl rfl rfl (by simp) rfl (one3 rfl rfl rfl) HL1.out HL2.out (al_le HL3.out) ?_; intro v9 w9 hown9 hbel9 hgr9 hnew9; obtain ⟨A9, k9, rfl⟩ := own_form hown9; have HT9 := Hd.mk ((HT2.out.alloc _).add (p := ⟨m, 0, []⟩) HTG.out rfl hown9 hbel9 hgr9); clear hown9 hbel9 hgr9 hnew9)
                  have HT10 := Hd.mk (HT9.out.tkx HTG.out HTK.out)
                  refine (ttake_calls (m := m) HT9.out.bx rfl HAX.out hm1).mono ?_
                  rintro e w10 ⟨rfl, rfl⟩
                  go_wp2_with fail
                  refine (ttake_calls (m := m) HT10.out.by_ rfl HAY.out hm1).mono ?_
                  rintro e w10 ⟨rfl, rfl⟩
                  go_wp2_with fail
                  obtain ⟨g1, g2⟩ := HRR.out.step (i := m) (j := m) (HT10.out.tky HTG.out HTL.out) (snoc_arg HRR.out.arg (PT.arg_keep (by omega))) HE.out HBAL.out HMX.out HMY.out (by omega) (by simp) HP1.out HP2.out HM1.out HM2.out
                  go_roundg ((tape lx ax).length - m + ((tape ly ay).length - m))
                  case measure => exact g1
                  case rel => exact ⟨_, _, _, _, _, _, _, _, _, g2⟩
                · have HE := Hd.mk (HQ2.out hqk hpk)
                  go_wp2_with (at_builtin; refine append_lit' el_part #[.int .i64 0, .int .i64 (m : Int), .string ⟨#[]⟩] (HT2.out.alloc _).own rfl rfl rfl rfl (by simp) rfl (one3 rfl rfl rfl) HL1.out HL2.out (al_le HL3.out) ?_; intro v9 w9 hown9 hbel9 hgr9 hnew9; obtain ⟨A9, k9, rfl⟩ := own_form hown9; have HT9 := Hd.mk ((HT2.out.alloc _).add (p := ⟨0, m, []⟩) HTG.out rfl hown9 hbel9 hgr9); clear hown9 hbel9 hgr9 hnew9)
                  have HT10 := Hd.mk (HT9.out.tkx HTG.out HTK.out)
                  refine (ttake_calls (m := m) HT9.out.bx rfl HAX.out hm1).mono ?_
                  rintro e w10 ⟨rfl, rfl⟩
                  go_wp2_with fail
                  refine (ttake_calls (m := m) HT10.out.by_ rfl HAY.out hm1).mono ?_
                  rintro e w10 ⟨rfl, rfl⟩
                  go_wp2_with fail
                  obtain ⟨g1, g2⟩ := HRR.out.step (i := m) (j := m) (HT10.out.tky HTG.out HTL.out) (snoc_arg HRR.out.arg (PT.arg_drop (by omega))) HE.out HBAL.out HMX.out HMY.out (by omega) (by simp) HP1.out HP2.out HM1.out HM2.out
                  go_roundg ((tape lx ax).length - m + ((tape ly ay).length - m))
                  case measure => exact g1
                  case rel => exact ⟨_, _, _, _, _, _, _, _, _, g2⟩
              · have HE := Hd.mk (HQ3.out hqk)
                have HT9 := Hd.mk (HT2.out.alloc (.cells #[.int .i64 qk, .int .i64 qd, .string ⟨#[]⟩] 81))
                go_wp2_with fail
                have HT10 := Hd.mk (HT9.out.tkx HTG.out HTK.out)
                refine (ttake_calls (m := m) HT9.out.bx rfl HAX.out hm1).mono ?_
                rintro e w10 ⟨rfl, rfl⟩
                go_wp2_with fail
                refine (ttake_calls (m := m) HT10.out.by_ rfl HAY.out hm1).mono ?_
                rintro e w10 ⟨rfl, rfl⟩
                go_wp2_with fail
                obtain ⟨g1, g2⟩ := HRR.out.step (i := m) (j := m) (HT10.out.tky HTG.out HTL.out) HRR.out.arg HE.out HBAL.out HMX.out HMY.out (by omega) (by simp) HP1.out HP2.out HM1.out HM2.out
                go_roundg ((tape lx ax).length - m + ((tape ly ay).length - m))
                case measure => exact g1
                case rel => exact ⟨_, _, _, _, _, _, _, _, _, g2⟩
            · have hs0 : s = false := Bool.eq_false_iff.2 (fun e => hst (.inl e))
              have ht0 : t = false := Bool.eq_false_iff.2 (fun e => hst (.inr e))
              subst hs0 ht0
              have hnil : tape lx ax = [] ∧ tape ly ay = [] := by
                refine ⟨?_, ?_⟩
                · rcases HN1.out with ⟨h, _⟩ | ⟨_, _, h⟩
                  · exact absurd h (by decide)
                  · exact h
                · rcases HN2.out with ⟨h, _⟩ | ⟨_, _, h⟩
                  · exact absurd h (by decide)
                  · exact h
              have HU : Hd (expand out = U) := ⟨by have := HRR.out.eq; rw [hnil.1, hnil.2, tr] at this; simpa using this⟩
              have HM : Hd (was out ≤ 4000000 ∧ plen out ≤ 4000000) := ⟨by
                obtain ⟨_, _, e3⟩ := expand_meas HRR.out.arg
                have h1 := HUL.out
                have h2 := was_nn HRR.out.arg
                rw [HU.out] at e3
                omega⟩
              clear hst hnil
              go_wp2_with fail
              refine (norm_calls (Sl.of_own (HT2.out.alloc _).own) HRR.out.arg (by have := HM.out; omega) (by have := HM.out; omega) (by omega)).mono ?_
              rintro e w9 ⟨⟨v9, rfl, hs9⟩, hb9⟩
              have HS9 := Hd.mk hs9
              obtain ⟨A9, c9, rfl, -⟩ := hs9
              have HB9 : Hd (Below w.heap.size w w9) := ⟨bstep (ex_alloc (HB7.out.trans (HT2.out.only.below HB7.out.size (fun k hk => by rintro (e | e) <;> omega))) _) hb9⟩
              clear hb9
              have HFI : Hd (norm out = urun U) := ⟨by rw [norm_urun HRR.out.arg, HU.out]⟩
              go_wp2_with fail
              go_ret2
              exact ⟨HB9.out, _, by rw [HTC.out]; rfl, fun _ => by rw [← HFI.out]; exact HS9.out, fun h => absurd HTC.out h⟩
          · have hqb' : (qb == []) = false := by rw [beq_eq_false_iff_ne]; exact hqb0
            obtain ⟨ht, hpa, heq, hbal, hle⟩ := tr_s2 (first := first) (out := out) HN1.out HN2.out hqb0 (.inr rfl)
            subst ht
            have HPA := Hd.mk hpa
            have HEQ := Hd.mk heq
            have HBAL := Hd.mk hbal
            obtain ⟨hqa, hsz, _⟩ := HN2.out.arg_ rfl
            obtain ⟨_, hk0, hd0⟩ := hqa
            dsimp only at hle hsz hk0 hd0
            have hql := List.length_pos_iff.2 hqb0
            have HTK := Hd.mk (HK2.out qb.length (by omega))
            have hql2 : qb.length ≤ 4611686018427387903 := by have := HRR.out.hgk; omega
            clear heq hbal hsz hpa
            cases s
            all_goals
              go_wp2_with (at_builtin; refine append_lit' el_part #[.int .i64 (qb.length : Int), .int .i64 0, .string ⟨#[]⟩] (HT2.out.alloc _).own rfl rfl rfl rfl (by simp) rfl (one3 rfl rfl rfl) HL1.out HL2.out (al_le HL3.out) ?_; intro v9 w9 hown9 hbel9 hgr9 hnew9; obtain ⟨A9, k9, rfl⟩ := own_form hown9; have HT9 := Hd.mk ((HT2.out.alloc _).add (p := ⟨qb.length, 0, []⟩) HTG.out rfl hown9 hbel9 hgr9); have hpb9 := (HPB.out.alloc _).only (Only.of_grown hgr9) (fun e => by have := hown0 _ e.symm; omega); have hqb9 := (Blk.new w8 81 #[.int .i64 qk, .int .i64 qd, .string ⟨qb.toArray⟩]).only (Only.of_grown hgr9) (fun e => by have := hown0 _ e.symm; omega); have P0 := hpb9.cell 0; have P1 := hpb9.cell 1; have P2 := hpb9.cell 2; have Q0 := hqb9.cell 0; have Q1 := hqb9.cell 1; have Q2 := hqb9.cell 2; simp only [List.getElem?_toArray, List.getElem?_cons_zero, List.getElem?_cons_succ] at P0 P1 P2 Q0 Q1 Q2; clear hown9 hbel9 hgr9 hnew9 hpb9 hqb9)
              refine (ttake_calls (m := qb.length) HT9.out.by_ rfl HAY.out hql2).mono ?_
              rintro e w10 ⟨rfl, rfl⟩
              go_wp2_with fail
              obtain ⟨g1, g2⟩ := HRR.out.step (i := 0) (j := qb.length) (HT9.out.tky HTG.out HTK.out) (snoc_arg HRR.out.arg HPA.out) HEQ.out (HRR.out.bal.trans HBAL.out.symm) (Nat.zero_le _) (by omega) (by omega) (by simp) HP1.out HP2.out HM1.out HM2.out
              go_roundg ((tape lx ax).length - 0 + ((tape ly ay).length - qb.length))
              case measure => exact g1
              case rel => exact ⟨_, _, _, _, _, _, _, _, _, g2⟩
        · have hpb' : (pb == []) = false := by rw [beq_eq_false_iff_ne]; exact hpb0
          by_cases hqb0 : qb = []
          · subst hqb0
            cases first
            · skip
              obtain ⟨hs, hpa, heq, hbal, hle⟩ := tr_s1 (first := false) (out := out) HN1.out HN2.out hpb0 (.inr rfl)
              subst hs
              have HPA := Hd.mk hpa
              have HEQ := Hd.mk heq
              have HBAL := Hd.mk hbal
              have hsz := (HN1.out.arg_ rfl).2.1
              obtain ⟨_, hk0, hd0⟩ := hpa
              dsimp only at hle hsz hk0 hd0
              have hpl := List.length_pos_iff.2 hpb0
              have HTK := Hd.mk (HK1.out pb.length (by omega))
              have hpl2 : pb.length ≤ 4611686018427387903 := by have := HRR.out.hgk; omega
              clear heq hbal hsz
              go_wp2_with (at_builtin; refine append_lit' el_part #[.int .i64 pk, .int .i64 pd, .string ⟨pb.toArray⟩] (HT2.out.alloc _).own rfl rfl rfl rfl (by simp) rfl (one3 rfl rfl rfl) HL1.out HL2.out (al_le HL3.out) ?_; intro v9 w9 hown9 hbel9 hgr9 hnew9; obtain ⟨A9, k9, rfl⟩ := own_form hown9; have HT9 := Hd.mk ((HT2.out.alloc _).add (p := ⟨pk, pd, pb⟩) HTG.out rfl hown9 hbel9 hgr9); have hpb9 := (HPB.out.alloc _).only (Only.of_grown hgr9) (fun e => by have := hown0 _ e.symm; omega); have hqb9 := (Blk.new w8 81 #[.int .i64 qk, .int .i64 qd, .string ⟨#[]⟩]).only (Only.of_grown hgr9) (fun e => by have := hown0 _ e.symm; omega); have P0 := hpb9.cell 0; have P1 := hpb9.cell 1; have P2 := hpb9.cell 2; have Q0 := hqb9.cell 0; have Q1 := hqb9.cell 1; have Q2 := hqb9.cell 2; simp only [List.getElem?_toArray, List.getElem?_cons_zero, List.getElem?_cons_succ] at P0 P1 P2 Q0 Q1 Q2; clear hown9 hbel9 hgr9 hnew9 hpb9 hqb9)
              refine (ttake_calls (m := pb.length) HT9.out.bx rfl HAX.out hpl2).mono ?_
              rintro e w10 ⟨rfl, rfl⟩
              go_wp2_with fail
              obtain ⟨g1, g2⟩ := HRR.out.step (i := pb.length) (j := 0) (HT9.out.tkx HTG.out HTK.out) (snoc_arg HRR.out.arg HPA.out) HEQ.out (HBAL.out.trans HRR.out.bal) (by omega) (Nat.zero_le _) (by omega) (by simp) HP1.out HP2.out HM1.out HM2.out
              go_roundg ((tape lx ax).length - pb.length + ((tape ly ay).length - 0))
              case measure => exact g1
              case rel => exact ⟨_, _, _, _, _, _, _, _, _, g2⟩
            · skip
              obtain ⟨hs, hpa, heq, hbal, hle⟩ := tr_s1 (first := true) (out := out) HN1.out HN2.out hpb0 (.inl rfl)
              subst hs
              have HPA := Hd.mk hpa
              have HEQ := Hd.mk heq
              have HBAL := Hd.mk hbal
              have hsz := (HN1.out.arg_ rfl).2.1
              obtain ⟨_, hk0, hd0⟩ := hpa
              dsimp only at hle hsz hk0 hd0
              have hpl := List.length_pos_iff.2 hpb0
              have HTK := Hd.mk (HK1.out pb.length (by omega))
              have hpl2 : pb.length ≤ 4611686018427387903 := by have := HRR.out.hgk; omega
              clear heq hbal hsz
              go_wp2_with (at_builtin; refine append_lit' el_part #[.int .i64 pk, .int .i64 pd, .string ⟨pb.toArray⟩] (HT2.out.alloc _).own rfl rfl rfl rfl (by simp) rfl (one3 rfl rfl rfl) HL1.out HL2.out (al_le HL3.out) ?_; intro v9 w9 hown9 hbel9 hgr9 hnew9; obtain ⟨A9, k9, rfl⟩ := own_form hown9; have HT9 := Hd.mk ((HT2.out.alloc _).add (p := ⟨pk, pd, pb⟩) HTG.out rfl hown9 hbel9 hgr9); have hpb9 := (HPB.out.alloc _).only (Only.of_grown hgr9) (fun e => by have := hown0 _ e.symm; omega); have hqb9 := (Blk.new w8 81 #[.int .i64 qk, .int .i64 qd, .string ⟨#[]⟩]).only (Only.of_grown hgr9) (fun e => by have := hown0 _ e.symm; omega); have P0 := hpb9.cell 0; have P1 := hpb9.cell 1; have P2 := hpb9.cell 2; have Q0 := hqb9.cell 0; have Q1 := hqb9.cell 1; have Q2 := hqb9.cell 2; simp only [List.getElem?_toArray, List.getElem?_cons_zero, List.getElem?_cons_succ] at P0 P1 P2 Q0 Q1 Q2; clear hown9 hbel9 hgr9 hnew9 hpb9 hqb9)
              refine (ttake_calls (m := pb.length) HT9.out.bx rfl HAX.out hpl2).mono ?_
              rintro e w10 ⟨rfl, rfl⟩
              go_wp2_with fail
              obtain ⟨g1, g2⟩ := HRR.out.step (i := pb.length) (j := 0) (HT9.out.tkx HTG.out HTK.out) (snoc_arg HRR.out.arg HPA.out) HEQ.out (HBAL.out.trans HRR.out.bal) (by omega) (Nat.zero_le _) (by omega) (by simp) HP1.out HP2.out HM1.out HM2.out
              go_roundg ((tape lx ax).length - pb.length + ((tape ly ay).length - 0))
              case measure => exact g1
              case rel => exact ⟨_, _, _, _, _, _, _, _, _, g2⟩
          · have hqb' : (qb == []) = false := by rw [beq_eq_false_iff_ne]; exact hqb0
            cases first
            · skip
              obtain ⟨ht, hpa, heq, hbal, hle⟩ := tr_s2 (first := false) (out := out) HN1.out HN2.out hqb0 (.inl rfl)
              subst ht
              have HPA := Hd.mk hpa
              have HEQ := Hd.mk heq
              have HBAL := Hd.mk hbal
              obtain ⟨hqa, hsz, _⟩ := HN2.out.arg_ rfl
              obtain ⟨_, hk0, hd0⟩ := hqa
              dsimp only at hle hsz hk0 hd0
              have hql := List.length_pos_iff.2 hqb0
              have HTK := Hd.mk (HK2.out qb.length (by omega))
              have hql2 : qb.length ≤ 4611686018427387903 := by have := HRR.out.hgk; omega
              clear heq hbal hsz hpa
              cases s
              all_goals
                go_wp2_with (at_builtin; refine append_lit' el_part #[.int .i64 (qb.length : Int), .int .i64 0, .string ⟨#[]⟩] (HT2.out.alloc _).own rfl rfl rfl rfl (by simp) rfl (one3 rfl rfl rfl) HL1.out HL2.out (al_le HL3.out) ?_; intro v9 w9 hown9 hbel9 hgr9 hnew9; obtain ⟨A9, k9, rfl⟩ := own_form hown9; have HT9 := Hd.mk ((HT2.out.alloc _).add (p := ⟨qb.length, 0, []⟩) HTG.out rfl hown9 hbel9 hgr9); have hpb9 := (HPB.out.alloc _).only (Only.of_grown hgr9) (fun e => by have := hown0 _ e.symm; omega); have hqb9 := (Blk.new w8 81 #[.int .i64 qk, .int .i64 qd, .string ⟨qb.toArray⟩]).only (Only.of_grown hgr9) (fun e => by have := hown0 _ e.symm; omega); have P0 := hpb9.cell 0; have P1 := hpb9.cell 1; have P2 := hpb9.cell 2; have Q0 := hqb9.cell 0; have Q1 := hqb9.cell 1; have Q2 := hqb9.cell 2; simp only [List.getElem?_toArray, List.getElem?_cons_zero, List.getElem?_cons_succ] at P0 P1 P2 Q0 Q1 Q2; clear hown9 hbel9 hgr9 hnew9 hpb9 hqb9)
                refine (ttake_calls (m := qb.length) HT9.out.by_ rfl HAY.out hql2).mono ?_
                rintro e w10 ⟨rfl, rfl⟩
                go_wp2_with fail
                obtain ⟨g1, g2⟩ := HRR.out.step (i := 0) (j := qb.length) (HT9.out.tky HTG.out HTK.out) (snoc_arg HRR.out.arg HPA.out) HEQ.out (HRR.out.bal.trans HBAL.out.symm) (Nat.zero_le _) (by omega) (by omega) (by simp) HP1.out HP2.out HM1.out HM2.out
                go_roundg ((tape lx ax).length - 0 + ((tape ly ay).length - qb.length))
                case measure => exact g1
                case rel => exact ⟨_, _, _, _, _, _, _, _, _, g2⟩
            · skip
              obtain ⟨hs, hpa, heq, hbal, hle⟩ := tr_s1 (first := true) (out := out) HN1.out HN2.out hpb0 (.inl rfl)
              subst hs
              have HPA := Hd.mk hpa
              have HEQ := Hd.mk heq
              have HBAL := Hd.mk hbal
              have hsz := (HN1.out.arg_ rfl).2.1
              obtain ⟨_, hk0, hd0⟩ := hpa
              dsimp only at hle hsz hk0 hd0
              have hpl := List.length_pos_iff.2 hpb0
              have HTK := Hd.mk (HK1.out pb.length (by omega))
              have hpl2 : pb.length ≤ 4611686018427387903 := by have := HRR.out.hgk; omega
              clear heq hbal hsz
              go_wp2_with (at_builtin; refine append_lit' el_part #[.int .i64 pk, .int .i64 pd, .string ⟨pb.toArray⟩] (HT2.out.alloc _).own rfl rfl rfl rfl (by simp) rfl (one3 rfl rfl rfl) HL1.out HL2.out (al_le HL3.out) ?_; intro v9 w9 hown9 hbel9 hgr9 hnew9; obtain ⟨A9, k9, rfl⟩ := own_form hown9; have HT9 := Hd.mk ((HT2.out.alloc _).add (p := ⟨pk, pd, pb⟩) HTG.out rfl hown9 hbel9 hgr9); have hpb9 := (HPB.out.alloc _).only (Only.of_grown hgr9) (fun e => by have := hown0 _ e.symm; omega); have hqb9 := (Blk.new w8 81 #[.int .i64 qk, .int .i64 qd, .string ⟨qb.toArray⟩]).only (Only.of_grown hgr9) (fun e => by have := hown0 _ e.symm; omega); have P0 := hpb9.cell 0; have P1 := hpb9.cell 1; have P2 := hpb9.cell 2; have Q0 := hqb9.cell 0; have Q1 := hqb9.cell 1; have Q2 := hqb9.cell 2; simp only [List.getElem?_toArray, List.getElem?_cons_zero, List.getElem?_cons_succ] at P0 P1 P2 Q0 Q1 Q2; clear hown9 hbel9 hgr9 hnew9 hpb9 hqb9)
              refine (ttake_calls (m := pb.length) HT9.out.bx rfl HAX.out hpl2).mono ?_
              rintro e w10 ⟨rfl, rfl⟩
              go_wp2_with fail
              obtain ⟨g1, g2⟩ := HRR.out.step (i := pb.length) (j := 0) (HT9.out.tkx HTG.out HTK.out) (snoc_arg HRR.out.arg HPA.out) HEQ.out (HBAL.out.trans HRR.out.bal) (by omega) (Nat.zero_le _) (by omega) (by simp) HP1.out HP2.out HM1.out HM2.out
              go_roundg ((tape lx ax).length - pb.length + ((tape ly ay).length - 0))
              case measure => exact g1
              case rel => exact ⟨_, _, _, _, _, _, _, _, _, g2⟩
    · have HTC : Hd (trc la lb = 2) := ⟨by unfold trc; rw [if_pos H0.out, if_neg hw]⟩
      have hw' : (was lb == was la) = false := by rw [beq_eq_false_iff_ne]; exact fun e => hw e.symm
      clear hw
      go_wp2_with fail
      go_ret2
      exact ⟨HB3.out, .slice none 0 0, by rw [HTC.out]; rfl, fun h => by rw [HTC.out] at h; exact absurd h (by decide), fun _ => rfl⟩
  · have HTC : Hd (trc la lb = chk2 la lb) := ⟨by unfold trc; rw [if_neg h0]⟩
    rw [errOf_ne h0]
    have H0 := Hd.mk h0
    clear h0
    generalize chk2 la lb = z at *
    go_wp2_with fail
    go_ret2
    exact ⟨HB1.out, .slice none 0 0, by rw [HTC.out, errOf_ne H0.out] <;> rfl, fun h => by rw [HTC.out] at h; exact absurd h H0.out, fun _ => rfl⟩
end
end Go.Proofs.YthbhhnfhjppbdaaDoor
