/- Several texts of the proof, one behind the other: RefK, RefPl. -/
import Derived.Test.YtgokmldngnmmhaaDoorMPosConverts40
import Derived.Lib.QuietBelow
import Derived.Deep.RegionHeld3
/- The reference's Spot. -/
namespace Go.Proofs.YtgokmldngnmmhaaDoor
open Go.RowKit Go.Sort
set_option maxRecDepth 100000
theorem ext_mid' (s : U.Bs) (a x : Nat) : (ByteArray.mk s.toArray).extract a (a + x) = ⟨((s.drop a).take x).toArray⟩ := by
  apply ByteArray.ext
  simp [ByteArray.extract, ByteArray.copySlice]
/-- Where the last line feed is: one ahead of k. -/
structure LastNl (s : U.Bs) (k : Nat) : Prop where
  le : k ≤ s.length
  non : ∀ j, k ≤ j → j < s.length → (U.at_ s j).toNat ≠ 10
  at_ : k = 0 ∨ (U.at_ s (k - 1)).toNat = 10
set_option maxHeartbeats 1000000 in
theorem lastIdx_calls {s : U.Bs} {k : Nat} (h : LastNl s k) (hl : s.length ≤ 1000000) (w : World) :
    Calls Tryd.prog 133 #[.string ⟨s.toArray⟩, .int .u8 10] w fun e w' => e = .returned (.int .i64 ((k : Int) - 1)) ∧ w' = w := by
  have HN := Hd.mk h.non
  have HA := Hd.mk h.at_
  have HL := Hd.mk h.le
  obtain ⟨n, hn⟩ : ∃ n, n = s.length := ⟨_, rfl⟩
  have HLN := Hd.mk hn
  clear h
  go_enter Tryd.func133, Tryd.ntmps133
  go_wp2_with fail
  go_loop [5] (fun i => ∃ j : Nat, k ≤ j ∧ j ≤ s.length ∧ i = .int .i64 ((j : Int) - 1)) (fun i => (intOf i + 1).toNat)
  case atStart => exact ⟨s.length, HL.out, Nat.le_refl _, rfl⟩
  case round =>
    obtain ⟨j, hkj, hj, rfl⟩ := hrel
    cases j with
    | zero =>
      obtain rfl : k = 0 := by omega
      go_wp2_with fail
      go_ret
      exact ⟨rfl, rfl⟩
    | succ m =>
      have hm : m < s.length := by omega
      have e1 : (((m + 1 : Nat) : Int) - 1) = (m : Int) := by omega
      have e0 := fun hh => getD_at (s := s) (j := m) hm hh
      rw [e1]
      by_cases hk : k = m + 1
      · have hc := HA.out
        subst hk
        have hc : (U.at_ s m).toNat = 10 := by rcases hc with h | h; (· omega); (· exact h)
        generalize U.at_ s m = c at *
        obtain rfl : c = 10 := UInt8.toNat_inj.1 hc
        clear hc hkj
        go_wp2_with fail
        go_ret
        exact ⟨rfl, rfl⟩
      · have hc := HN.out m (by omega) hm
        have hcc : (((U.at_ s m).toNat : Int) == 10) = false := by rw [beq_eq_false_iff_ne]; omega
        have hcd : ((U.at_ s m).toNat == 10) = false := by rw [beq_eq_false_iff_ne]; omega
        generalize U.at_ s m = c at *
        go_wp2_with fail
        go_round
        case rel => exact ⟨m, by omega, by omega, rfl⟩
        case measure => simp [intOf]
theorem lastIndexByte_calls {s : U.Bs} {k : Nat} (h : LastNl s k) (hl : s.length ≤ 1000000) (w : World) :
    Calls Tryd.prog 109 #[.string ⟨s.toArray⟩, .int .u8 10] w fun e w' => e = .returned (.int .i64 ((k : Int) - 1)) ∧ w' = w := by
  have HH := fun w => Hd.mk (lastIdx_calls h hl w)
  clear h
  go_enter Tryd.func109, Tryd.ntmps109
  go_wp2_with (go_at_call 133; refine (HH _).out.mono ?_; rintro e w1 ⟨rfl, rfl⟩)
  go_ret
  exact ⟨rfl, rfl⟩
theorem at_app_r {a b : U.Bs} {j : Nat} (h : a.length ≤ j) : U.at_ (a ++ b) j = U.at_ b (j - a.length) := by
  simp [U.at_, List.getElem?_append_right h]
/-- In a text: the last line feed ahead of its end. -/
theorem lastNl {p ln : List Int} (h : U.AllR (p ++ ln)) (hp : p = [] ∨ ∃ p', p = p' ++ [10]) (hl : (cnt ln).l = 0) : LastNl (U.encs (p ++ ln)) (bl p) := by
  have hc := count_encs (all_of_app h).2
  rw [hl] at hc
  refine ⟨?_, ?_, ?_⟩
  · show bl p ≤ bl (p ++ ln); rw [bl_append]; omega
  · intro j h1 h2 e
    rw [U.encs_append, at_app_r (by exact h1)] at e
    have h3 : j - (U.encs p).length < (U.encs ln).length := by
      have e1 : (U.encs (p ++ ln)).length = (U.encs p).length + (U.encs ln).length := by rw [U.encs_append, List.length_append]
      have e2 : bl p = (U.encs p).length := rfl
      omega
    have h4 : U.at_ (U.encs ln) (j - (U.encs p).length) ∈ U.encs ln := by
      unfold U.at_
      rw [List.getD_eq_getElem?_getD, List.getElem?_eq_getElem h3, Option.getD_some]
      exact List.getElem_mem h3
    have h5 : U.at_ (U.encs ln) (j - (U.encs p).length) = 10 := UInt8.toNat_inj.1 e
    rw [h5] at h4
    have := List.count_pos_iff.2 h4
    omega
  · rcases hp with rfl | ⟨p', rfl⟩
    · exact .inl rfl
    · right
      have e1 : bl (p' ++ [10]) - 1 = (U.encs p').length := by rw [bl_append]; show bl p' + 1 - 1 = _; rfl
      rw [e1, List.append_assoc, U.encs_append, at_app_r (Nat.le_refl _), Nat.sub_self]
      rfl
theorem last_line (p : List Int) : ∃ p0 ln, p = p0 ++ ln ∧ (p0 = [] ∨ ∃ p', p0 = p' ++ [10]) ∧ (cnt ln).l = 0 := by
  generalize hn : p.length = n
  induction n generalizing p with
  | zero => exact ⟨[], [], List.length_eq_zero_iff.1 hn, .inl rfl, rfl⟩
  | succ n ih =>
    rcases List.eq_nil_or_concat p with rfl | ⟨a, x, rfl⟩
    · simp at hn
    · rw [List.concat_eq_append] at hn ⊢
      by_cases hx : x = 10
      · subst hx; exact ⟨a ++ [10], [], by simp, .inr ⟨a, rfl⟩, rfl⟩
      · obtain ⟨p0, ln, e, h1, h2⟩ := ih a (by simpa using hn)
        exact ⟨p0, ln ++ [x], by rw [e, List.append_assoc], h1, by rw [cnt_app_l, h2, cnt_one_l, if_neg hx]; rfl⟩
def RSpotG (u at_ : Int) (R : List Int) (w : World) (e : Ending) (w' : World) : Prop := Below w.heap.size w w' ∧ ∃ l col k, e = .returned (.tuple #[.agg #[.int .i64 l, .int .i64 col], .int .i64 k]) ∧ SpotR u at_ R l col (erV k)
section
attribute [local go_sem] Cn.v_eq
set_option maxHeartbeats 4000000 in
theorem rspot_calls {R : List Int} {u at_ : Int} {w : World} (hR : U.AllR R) (hl : bl R ≤ 8000) :
    Calls Tryd.prog 51 #[.string ⟨(U.encs R).toArray⟩, .int .i64 u, .int .i64 at_] w (RSpotG u at_ R w) := by
  have HA := Hd.mk hR
  have HBL := Hd.mk hl
  have HAH := Hd.mk (fun w1 => rahead_calls (u := u) (at_ := at_) (w := w1) hR (by omega))
  have hlen : (U.encs R).length = bl R := rfl
  have HLEN := Hd.mk hlen
  clear hR hlen
  go_enter Tryd.func51, Tryd.ntmps51
  go_wp2_with fail
  refine (HAH.out _).mono ?_
  rintro e w1 ⟨hb, c, k, rfl, hr⟩
  have hR1 : Blk w1 w.heap.size 91 #[.int .i64 0, .int .i64 0] := (Blk.new w 91 _).below hb (by simp)
  have HB := Hd.mk (bstep (ex_alloc (Below.refl _ _) _) hb)
  have HR1 := Hd.mk hR1
  have HRR := Hd.mk hr
  have r0 := hR1.cell 0
  have r1 := hR1.cell 1
  have rf := hR1.frozen
  have rl := hR1.lt
  simp only [List.getElem?_toArray, List.getElem?_cons_zero, List.getElem?_cons_succ] at r0 r1
  clear hb hr hR1
  by_cases hk : k = 0
  · subst hk
    obtain ⟨p, q, hpq, hat, hcp⟩ := HRR.out.nil
    obtain ⟨p0, ln, rfl, hp0, hln⟩ := last_line p
    have hall : U.AllR ((p0 ++ ln) ++ q) := hpq ▸ HA.out
    have HLN := Hd.mk (lastNl (all_of_app hall).1 hp0 hln)
    obtain ⟨a, ha⟩ : ∃ a, a = bl (p0 ++ ln) := ⟨_, rfl⟩
    obtain ⟨m, hm⟩ : ∃ m, m = bl R := ⟨_, rfl⟩
    obtain ⟨f, hf⟩ : ∃ f, f = bl p0 := ⟨_, rfl⟩
    have hlm : (U.encs R).length = m := by rw [HLEN.out, hm]
    have ham : a ≤ m := by have e := bl_append (p0 ++ ln) q; rw [← hpq] at e; omega
    have hfa : f ≤ a := by rw [hf, ha, bl_append]; omega
    have ham2 : a ≤ 8000 := by have := HBL.out; omega
    have hcb : c.b = (a : Int) := by rw [hcp, cnt_b, ha]
    obtain ⟨cb, ch, cr, cl⟩ := c
    dsimp only at hcb
    subst hcb
    have hs1 : (ByteArray.mk (U.encs R).toArray).extract 0 a = ⟨(U.encs (p0 ++ ln)).toArray⟩ := by
      rw [ext_take0 (by omega), hpq, U.encs_append, ha]
      unfold bl; rw [List.take_left]
    have hs2 : (ByteArray.mk (U.encs R).toArray).extract f a = ⟨(U.encs ln).toArray⟩ := by
      obtain ⟨d, hd⟩ : ∃ d, a = f + d := ⟨a - f, by omega⟩
      have hdl : d = (U.encs ln).length := by have : bl (p0 ++ ln) = bl p0 + bl ln := bl_append _ _; show d = bl ln; omega
      rw [hd, ext_mid', hpq, U.encs_append, U.encs_append, List.append_assoc, hf]
      unfold bl
      rw [List.drop_left, hdl, List.take_left]
    have HS1 := Hd.mk hs1
    have HS2 := Hd.mk hs2
    have HLI : ∀ w, Hd (Calls Tryd.prog 109 #[.string ((ByteArray.mk (U.encs R).toArray).extract 0 a), .int .u8 10] w fun e w' => e = .returned (.int .i64 ((f : Int) - 1)) ∧ w' = w) := fun w => ⟨by
      rw [HS1.out, hf]
      exact lastIndexByte_calls HLN.out (by have : (U.encs (p0 ++ ln)).length = a := by rw [ha]; rfl
                                            omega) w⟩
    have HCN : ∀ w, Hd (Calls Tryd.prog 18 #[.string ((ByteArray.mk (U.encs R).toArray).extract f a)] w fun e w' => e = .returned (.tuple #[(cnt ln).v, fltV 0 (-1)]) ∧ Below w.heap.size w w') := fun w => ⟨by
      rw [HS2.out]
      refine (rcount_calls (U.sp_encs (all_of_app (all_of_app hall).1).2) w (by show bl ln ≤ _; have : bl (p0 ++ ln) = bl p0 + bl ln := bl_append _ _; omega)).mono ?_
      rintro e w' ⟨hb, he, -⟩
      exact ⟨he rfl, hb⟩⟩
    have HFIN : Hd (SpotR u at_ R cl ((cnt ln).of u) (erV 0)) := ⟨⟨(a : Int), ch, cr, cl⟩, HRR.out, fun _ => ⟨cnt p0, ⟨p0, ln ++ q, by rw [hpq]; simp, by have e := congrArg Cn.l hcp; rw [cnt_app_l, hln] at e; dsimp only at e; dsimp only; omega, rfl, hp0⟩, rfl, by rw [hcp, cnt_app_of]; omega⟩, fun h => absurd rfl h⟩
    have HC0 : Hd (CnBlk (w1.alloc (.cells #[.int .i64 (a : Int), .int .i64 ch, .int .i64 cr, .int .i64 cl] 36)) w1.heap.size ⟨(a : Int), ch, cr, cl⟩) := ⟨heap_alloc_new w1 _⟩
    have g1 : (0 : Int) ≤ (a : Int) := by omega
    have g3 : ((f : Int) - 1) + 1 = (f : Int) := by omega
    clear hpq hat hcp hall hp0 hln ha hm hf hs1 hs2 HLN HLEN
    go_wp2_with (first
      | (go_at_call 109; refine (HLI _).out.mono ?_; rintro e w3 ⟨rfl, rfl⟩)
      | (go_at_call 18; refine (HCN _).out.mono ?_; rintro e w2 ⟨rfl, hb2⟩; have HB2 := Hd.mk (bstep (ex_alloc HB.out _) hb2); have HC2 := Hd.mk (HC0.out.below hb2 HC0.out.lt); have HR2 := Hd.mk ((HR1.out.alloc _).below hb2 (by simp; omega)); clear hb2; unfold fltV))
    have hl2 : CnBlk ((w2.alloc (.cells #[.int .i64 (cnt ln).b, .int .i64 (cnt ln).h, .int .i64 (cnt ln).r, .int .i64 (cnt ln).l] 36)).alloc (.cells #[.int .i64 0, .int .i64 (-1)] 25)) w2.heap.size (cnt ln) := CnBlk.below (heap_alloc_new w2 _) (ex_alloc (Below.refl _ _) _) (by simp only [World.size_alloc]; omega)
    have HLW := Hd.mk hl2
    have hx2 := ex_alloc (ex_alloc (Below.refl w2.heap.size w2) (.cells #[.int .i64 (cnt ln).b, .int .i64 (cnt ln).h, .int .i64 (cnt ln).r, .int .i64 (cnt ln).l] 36)) (.cells #[.int .i64 0, .int .i64 (-1)] 25)
    have HCW := Hd.mk (HC2.out.below hx2 HC2.out.lt)
    have HRW := Hd.mk (HR2.out.below hx2 HR2.out.lt)
    have HBW := Hd.mk (bstep HB2.out hx2)
    have HNE : Hd (w1.heap.size ≠ w.heap.size ∧ w2.heap.size ≠ w.heap.size) := ⟨by have := HR1.out.lt; omega, by have := HR2.out.lt; omega⟩
    clear hl2 hx2
    generalize ((w2.alloc (.cells #[.int .i64 (cnt ln).b, .int .i64 (cnt ln).h, .int .i64 (cnt ln).r, .int .i64 (cnt ln).l] 36)).alloc (.cells #[.int .i64 0, .int .i64 (-1)] 25)) = wc at HLW HCW HRW HBW ⊢
    have HS0 : Hd (SpS wc w.heap.size wc) := ⟨Only.refl _ _, _, _, HRW.out⟩
    obtain ⟨lc, hlc⟩ : ∃ x, x = cnt ln := ⟨_, rfl⟩
    rw [← hlc] at HLW HFIN ⊢
    generalize hg1 : w1.heap.size = g1 at *
    generalize hg2 : w2.heap.size = g2 at *
    generalize hB : w.heap.size = B at *
    clear r0 r1 rf rl hlc
    obtain ⟨q0, q1, q2, q3⟩ := HCW.out.cells
    obtain ⟨l0, l1, l2, l3⟩ := HLW.out.cells
    dsimp only at q0 q1 q2 q3
    go_region_held3 (fun w' => SpS wc B w' ∧ w'.cell? ⟨g1, 0, none⟩ = some (.int .i64 (a : Int)) ∧ w'.cell? ⟨g1, 1, none⟩ = some (.int .i64 ch) ∧ w'.cell? ⟨g1, 2, none⟩ = some (.int .i64 cr) ∧ w'.cell? ⟨g1, 3, none⟩ = some (.int .i64 cl) ∧ w'.cell? ⟨g2, 0, none⟩ = some (.int .i64 lc.b) ∧ w'.cell? ⟨g2, 1, none⟩ = some (.int .i64 lc.h) ∧ w'.cell? ⟨g2, 2, none⟩ = some (.int .i64 lc.r) ∧ w'.cell? ⟨g2, 3, none⟩ = some (.int .i64 lc.l) ∧ w'.cell? ⟨B, 0, none⟩ = some (cv w' B 0) ∧ w'.cell? ⟨B, 1, none⟩ = some (cv w' B 1) ∧ (∀ i, w'.frozen? ⟨B, i, none⟩ = false) ∧ B < w'.heap.size)
      (first | exact (sp_x HCW.out HLW.out HNE.out.1 HNE.out.2 HS0.out.drew) | exact (sp_x HCW.out HLW.out HNE.out.1 HNE.out.2 (SpS.call (SpX.sp (W := wc) (g := g1) (y := g2) (c := ⟨(a : Int), ch, cr, cl⟩) (lc := lc) (B := B) (by assumption)) (by assumption))) | exact (sp_x HCW.out HLW.out HNE.out.1 HNE.out.2 (SpS.store (SpX.sp (W := wc) (g := g1) (y := g2) (c := ⟨(a : Int), ch, cr, cl⟩) (lc := lc) (B := B) (by assumption)) _ _)) | assumption)
      (first
        | (go_at_call 38; refine (refIn_calls lc u _).mono ?_; rintro e w' ⟨rfl, hb'⟩))
    all_goals
      have hfin := SpS.store1 (SpS.call HS0.out.drew hb') (.int .i64 cl) (.int .i64 (lc.of u))
      have HFN := Hd.mk hfin
      clear hfin
      generalize ((w'.setCell ⟨B, 0, none⟩ (.int .i64 cl)).setCell ⟨B, 1, none⟩ (.int .i64 (lc.of u))) = wf at HFN ⊢
      have f0 := HFN.out.2.cell 0
      have f1 := HFN.out.2.cell 1
      simp only [List.getElem?_toArray, List.getElem?_cons_zero, List.getElem?_cons_succ] at f0 f1
      clear hb'
      go_wp2_with fail
      refine bodyPost_ret (v := .tuple #[.agg #[.int .i64 cl, .int .i64 (lc.of u)], .int .i64 0]) (by simp [results, Tryd.results51, go_sem, f0, f1]) rfl ?_
      refine ⟨?_, _, _, _, rfl, HFIN.out⟩
      subst hB
      exact HBW.out.trans (HFN.out.1.below HBW.out.size (fun k hk e => by omega))
  · have hk' : (k == 0) = false := by rw [beq_eq_false_iff_ne]; exact hk
    have HK := Hd.mk hk
    have hcz : c = Cn.zero := by
      rcases ahead_cases HRR.out with ⟨e, -⟩ | ⟨k', e, hz, -⟩
      · exact absurd (erV_inj (b := 0) e) hk
      · exact hz
    subst hcz
    clear hk
    go_wp2_with fail
    have hset := (HR1.out.set_ 0 (.int .i64 0)).set_ 1 (.int .i64 0)
    have hbl : Below w.heap.size w ((w1.setCell ⟨w.heap.size, 0, none⟩ (.int .i64 0)).setCell ⟨w.heap.size, 1, none⟩ (.int .i64 0)) := (HB.out.setCell (p := ⟨w.heap.size, 0, none⟩) (Nat.le_refl _) _).setCell (p := ⟨w.heap.size, 1, none⟩) (Nat.le_refl _) _
    have HSET := Hd.mk hset
    have HBLO := Hd.mk hbl
    clear hset hbl
    have f0 := (HSET.out.alloc (.cells #[.int .i64 Cn.zero.b, .int .i64 Cn.zero.h, .int .i64 Cn.zero.r, .int .i64 Cn.zero.l] 36)).cell 0
    have f1 := (HSET.out.alloc (.cells #[.int .i64 Cn.zero.b, .int .i64 Cn.zero.h, .int .i64 Cn.zero.r, .int .i64 Cn.zero.l] 36)).cell 1
    simp only [List.setIfInBounds_toArray, List.set_cons_zero, List.set_cons_succ, List.getElem?_toArray, List.getElem?_cons_zero, List.getElem?_cons_succ] at f0 f1
    refine bodyPost_ret (v := .tuple #[.agg #[.int .i64 0, .int .i64 0], .int .i64 k]) (by simp [results, Tryd.results51, go_sem, f0, f1]) rfl ?_
    exact ⟨ex_alloc HBLO.out _, _, _, _, rfl, Cn.zero, HRR.out, fun h => absurd (erV_inj (b := 0) h) HK.out, fun _ => ⟨rfl, rfl⟩⟩
end
end Go.Proofs.YtgokmldngnmmhaaDoor
/- The reference's Place. -/
namespace Go.Proofs.YtgokmldngnmmhaaDoor
open Go.RowKit Go.Sort
set_option maxRecDepth 100000
def RPlaceG (u n col : Int) (R : List Int) (w : World) (e : Ending) (w' : World) : Prop := Below w.heap.size w w' ∧ ∃ x k, e = .returned (.tuple #[.int .i64 x, .int .i64 k]) ∧ PlaceR u n col R x (erV k)
section
attribute [local go_sem] Cn.v_eq
set_option maxHeartbeats 8000000 in
theorem rplace_calls {R : List Int} {u n col : Int} {w : World} (hR : U.AllR R) (hl : bl R ≤ 8000) :
    Calls Tryd.prog 53 #[.string ⟨(U.encs R).toArray⟩, .int .i64 u, .agg #[.int .i64 n, .int .i64 col]] w (RPlaceG u n col R w) := by
  have HA := Hd.mk hR
  have HBL := Hd.mk hl
  have HLI := Hd.mk (fun w1 => rline_calls (n := n) (w := w1) hR (by omega))
  have hlen : (U.encs R).length = bl R := rfl
  have HLEN := Hd.mk hlen
  clear hR hlen
  by_cases hu : 1 ≤ u ∧ u ≤ 3
  · have HU := Hd.mk hu
    go_enter Tryd.func53, Tryd.ntmps53
    go_wp2_with (first
      | (go_at_call 87; refine (inT HU.out _).mono ?_; rintro e w3 ⟨rfl, rfl⟩))
    have hB0 : Blk (w.alloc (.cells #[.int .i64 n, .int .i64 col] 91)) w.heap.size 91 #[.int .i64 n, .int .i64 col] := Blk.new _ _ _
    refine (HLI.out _).mono ?_
    rintro e w1 ⟨hb, c, k, rfl, hr⟩
    have HB1 := Hd.mk (bstep (ex_alloc (Below.refl _ _) _) hb)
    have HS1 := Hd.mk (hB0.below hb hB0.lt)
    have HRL := Hd.mk hr
    clear hb hr hB0 hu
    by_cases hn : n < 0 ∨ (cnt R).l < n
    · obtain ⟨rfl, he⟩ := HRL.out.1 hn
      have hk2 : k = 2 := erV_inj (b := 2) he
      subst hk2
      have HN := Hd.mk hn
      clear hn he
      go_wp2_with fail
      go_ret2
      exact ⟨ex_alloc HB1.out _, 0, 2, rfl, fun h => absurd h (by have := HU.out; omega), fun _ _ => ⟨rfl, rfl⟩, fun _ h => absurd HN.out h⟩
    · have HNN := Hd.mk hn
      obtain ⟨he, hln⟩ := HRL.out.2 hn
      have hk0 : k = 0 := erV_inj (b := 0) he
      subst hk0
      obtain ⟨pp, ln, tl, D, hlc⟩ := ln_lnd hln
      have HD := Hd.mk D
      have hDe := D.eq
      have hall : U.AllR (pp ++ (ln ++ tl)) := hDe ▸ HA.out
      have HALN := Hd.mk (all_of_app (all_of_app hall).2).1
      obtain ⟨a, ha⟩ : ∃ a, a = bl pp := ⟨_, rfl⟩
      obtain ⟨b, hb⟩ : ∃ b, b = bl ln := ⟨_, rfl⟩
      obtain ⟨m, hm⟩ : ∃ m, m = bl R := ⟨_, rfl⟩
      have hlm : (U.encs R).length = m := by rw [HLEN.out, hm]
      have hmab : m = a + (b + bl tl) := by rw [hm, hDe, bl_append, bl_append, ← ha, ← hb]
      have ham : a ≤ m := by omega
      have hbm : b ≤ 8000 := by have := HBL.out; omega
      have hcb : c.b = (a : Int) := by rw [hlc, cnt_b, ha]
      have hs1 : (ByteArray.mk (U.encs R).toArray).extract a m = ⟨(U.encs (ln ++ tl)).toArray⟩ := by
        rw [← hlm, ext_drop, hDe, U.encs_append, ha]
        unfold bl; rw [List.drop_left]
      have hs2 : (ByteArray.mk (U.encs (ln ++ tl)).toArray).extract 0 b = ⟨(U.encs ln).toArray⟩ := by
        rw [ext_take0 (by rw [U.encs_append, List.length_append, hb]; unfold bl; omega), U.encs_append, hb]
        unfold bl; rw [List.take_left]
      obtain ⟨le, hle⟩ : ∃ x, x = (cnt ln).of u := ⟨_, rfl⟩
      obtain ⟨vl, hvl⟩ : ∃ x, x = (cnt pp).of u := ⟨_, rfl⟩
      have HLE := Hd.mk hle
      have HVL := Hd.mk hvl
      have hle0 : 0 ≤ le := by rw [hle]; exact of_nn _ _
      have hvl0 : 0 ≤ vl := by rw [hvl]; exact of_nn _ _
      have hle1 : le ≤ 32000 := by rw [hle]; have := of_le (rs := ln) (n := 8000) (by have := bl_len ln; omega) u; omega
      have hvl1 : vl ≤ 32000 := by rw [hvl]; have := of_le (rs := pp) (n := 8000) (by have := bl_len pp; have := HBL.out; omega) u; omega
      have HCN := Hd.mk (fun w => rcount_calls (U.sp_encs HALN.out) w (by show bl ln ≤ _; omega))
      have HAH := Hd.mk (fun w => rahead_calls (u := u) (at_ := col) (w := w) HALN.out (by omega))
      have HIX : Hd ((tl = [] → Lib.indexByte (U.encs (ln ++ tl)) 10 = -1) ∧ (tl ≠ [] → Lib.indexByte (U.encs (ln ++ tl)) 10 = b)) := ⟨by
        have hc := count_encs HALN.out
        rw [D.nol] at hc
        constructor
        · rintro rfl
          rw [List.append_nil]
          exact idx_none (by omega)
        · intro h
          rcases D.til with rfl | ⟨t, rfl⟩
          · exact absurd rfl h
          · rw [idx_encs (all_of_app hall).2 D.nol, hb]⟩
      have HTL := Hd.mk D.til
      have HS1' := Hd.mk hs1
      have HS2' := Hd.mk hs2
      have HLC := Hd.mk hlc
      obtain ⟨cb, ch, cr, cl⟩ := c
      dsimp only at hcb
      subst hcb
      have hl1 : CnBlk (w1.alloc (.cells #[.int .i64 (a : Int), .int .i64 ch, .int .i64 cr, .int .i64 cl] 36)) w1.heap.size ⟨(a : Int), ch, cr, cl⟩ := heap_alloc_new w1 _
      have HL2 := Hd.mk hl1
      have HS2 := Hd.mk (HS1.out.alloc (.cells #[.int .i64 (a : Int), .int .i64 ch, .int .i64 cr, .int .i64 cl] 36))
      have HB2 := Hd.mk (ex_alloc HB1.out (.cells #[.int .i64 (a : Int), .int .i64 ch, .int .i64 cr, .int .i64 cl] 36))
      have g1 : (0 : Int) ≤ (a : Int) := by omega
      have g2 : (a : Int) ≤ (m : Int) := by omega
      have g4 : (0 : Int) ≤ (b : Int) := by omega
      have g5 : (b : Int) ≤ ((U.encs (ln ++ tl)).length : Int) := by rw [U.encs_append, List.length_append, hb]; unfold bl; omega
      have g6 : b ≤ (U.encs (ln ++ tl)).length := by omega
      clear hn he hln D hlc hDe hall ha hb hm hmab hbm hs1 hs2 hle hvl hl1 HRL HLEN HLI
      by_cases htl : tl = []
      · have hix := HIX.out.1 htl
        have HII : ∀ w, Hd (Calls Tryd.prog 110 #[.string ((ByteArray.mk (U.encs R).toArray).extract a m), .int .u8 10] w fun e w' => e = .returned (.int .i64 (-1)) ∧ w' = w) := fun w => ⟨by
          rw [HS1'.out, ← hix]
          exact indexByte_calls ⟨(U.encs (ln ++ tl)).toArray⟩ w⟩
        have HCC : ∀ w, Hd (Calls Tryd.prog 18 #[.string ((ByteArray.mk (U.encs R).toArray).extract a m)] w fun e w' => e = .returned (.tuple #[(cnt ln).v, fltV 0 (-1)]) ∧ Below w.heap.size w w') := fun w => ⟨by
          rw [HS1'.out, htl, List.append_nil]
          exact (HCN.out w).mono (by rintro e w' ⟨hb, he, -⟩; exact ⟨he rfl, hb⟩)⟩
        have HAA : ∀ w, Hd (Calls Tryd.prog 49 #[.string ((ByteArray.mk (U.encs R).toArray).extract a m), .int .i64 u, .int .i64 col] w (RAPost u col ln w)) := fun w => ⟨by
          rw [HS1'.out, htl, List.append_nil]
          exact HAH.out w⟩
        clear hix htl
        go_wp2_with (first
          | (go_at_call 110; refine (HII _).out.mono ?_; rintro e w3 ⟨rfl, rfl⟩)
          | (go_at_call 18; refine (HCC _).out.mono ?_; rintro e w2 ⟨rfl, hb2⟩; have HB3 := Hd.mk (bstep HB2.out hb2); have HL3 := Hd.mk (HL2.out.below hb2 HL2.out.lt); have HS3 := Hd.mk (HS2.out.below hb2 HS2.out.lt); clear hb2; unfold fltV))
        have hl2 : CnBlk ((w2.alloc (.cells #[.int .i64 (cnt ln).b, .int .i64 (cnt ln).h, .int .i64 (cnt ln).r, .int .i64 (cnt ln).l] 36)).alloc (.cells #[.int .i64 0, .int .i64 (-1)] 25)) w2.heap.size (cnt ln) := CnBlk.below (heap_alloc_new w2 _) (ex_alloc (Below.refl _ _) _) (by simp only [World.size_alloc]; omega)
        have HN4 := Hd.mk hl2
        have hx2 := ex_alloc (ex_alloc (Below.refl w2.heap.size w2) (.cells #[.int .i64 (cnt ln).b, .int .i64 (cnt ln).h, .int .i64 (cnt ln).r, .int .i64 (cnt ln).l] 36)) (.cells #[.int .i64 0, .int .i64 (-1)] 25)
        have HL4 := Hd.mk (HL3.out.below hx2 HL3.out.lt)
        have HS4 := Hd.mk (HS3.out.below hx2 HS3.out.lt)
        have HB4 := Hd.mk (bstep HB3.out hx2)
        clear hl2 hx2
        generalize ((w2.alloc (.cells #[.int .i64 (cnt ln).b, .int .i64 (cnt ln).h, .int .i64 (cnt ln).r, .int .i64 (cnt ln).l] 36)).alloc (.cells #[.int .i64 0, .int .i64 (-1)] 25)) = w4 at HN4 HL4 HS4 HB4 ⊢
        obtain ⟨nc, hnc⟩ : ∃ x, x = cnt ln := ⟨_, rfl⟩
        have HNC := Hd.mk hnc
        rw [← hnc] at HN4 ⊢
        generalize w2.heap.size = g2 at HN4 ⊢
        generalize hgl : w1.heap.size = g1 at HL4 ⊢
        clear hnc hgl HB3 HL3 HS3 HB2 HL2 HS2
        have s0 := HS4.out.cell 0
        have s1 := HS4.out.cell 1
        simp only [List.getElem?_toArray, List.getElem?_cons_zero, List.getElem?_cons_succ] at s0 s1
        obtain ⟨n0, n1, n2, n3⟩ := HN4.out.cells
        have ks0 := cell_regrown s0
        have ks1 := cell_regrown s1
        have kn0 := cell_regrown n0
        have kn1 := cell_regrown n1
        have kn2 := cell_regrown n2
        have kn3 := cell_regrown n3
        have hqn : ∀ d os, Calls Tryd.prog 38 #[.agg #[.int .i64 nc.b, .int .i64 nc.h, .int .i64 nc.r, .int .i64 nc.l], .int .i64 u] (grow (redrawn w4 d) os) fun e w'' => e = .returned (.int .i64 le) ∧ ∃ p : Regrown, w'' = grow (redrawn w4 p.d) p.os := fun d os => by rw [HLE.out, ← HNC.out]; exact Calls.regrown_of (refIn_calls nc u _)
        by_cases hc : 0 ≤ col ∧ col ≤ le
        · have HCC2 := Hd.mk hc
          have hqi : ∀ d os, Calls Tryd.prog 87 #[.int .i64 col, .int .i64 0, .int .i64 le] (grow (redrawn w4 d) os) fun e w'' => e = .returned (.bool true) ∧ ∃ p : Regrown, w'' = grow (redrawn w4 p.d) p.os := fun d os => (inT HCC2.out (grow (redrawn w4 d) os)).mono (by rintro e w' ⟨rfl, rfl⟩; exact ⟨rfl, ⟨d, os⟩, rfl⟩)
          refine wp_region_quiet_below (by kernel_rfl) (by kernel_rfl) ?_
          repeat (quiet_step (first | (go_at_call 38; exact hqn _ _) | (go_at_call 87; exact hqi _ _)))
          refine wpQuiet_nil ?_
          rintro _ ⟨⟨dq, oq⟩, rfl⟩
          have hbg := below_regrown w4 dq oq
          have HB5 := Hd.mk (bstep HB4.out hbg)
          have HS5 := Hd.mk (HS4.out.below hbg HS4.out.lt)
          have HL5 := Hd.mk (HL4.out.below hbg HL4.out.lt)
          generalize grow (redrawn w4 dq) oq = w5 at HB5 HS5 HL5 ⊢
          clear hbg ks0 ks1 kn0 kn1 kn2 kn3 hqn hqi s0 s1 n0 n1 n2 n3
          have s1 := HS5.out.cell 1
          simp only [List.getElem?_toArray, List.getElem?_cons_zero, List.getElem?_cons_succ] at s1
          go_wp2_with fail
          refine (HAA _).out.mono ?_
          rintro e w6 ⟨hb6, c6, k6, rfl, hr6⟩
          have HB6 := Hd.mk (bstep HB5.out hb6)
          have HL6 := Hd.mk (HL5.out.below hb6 HL5.out.lt)
          have HR6 := Hd.mk hr6
          clear hb6 hr6 s1
          by_cases hk6 : k6 = 0
          · subst hk6
            have hp6 := HR6.out.nil
            have hv6 : c6.of u = col := by obtain ⟨x, y, -, e, rfl⟩ := hp6; exact e
            have HV6 := Hd.mk hv6
            have hl6 : CnBlk (w6.alloc (.cells #[.int .i64 c6.b, .int .i64 c6.h, .int .i64 c6.r, .int .i64 c6.l] 36)) w6.heap.size c6 := heap_alloc_new w6 _
            have HN7 := Hd.mk hl6
            have HL7 := Hd.mk (HL6.out.below (ex_alloc (Below.refl _ _) (.cells #[.int .i64 c6.b, .int .i64 c6.h, .int .i64 c6.r, .int .i64 c6.l] 36)) HL6.out.lt)
            have HB7 := Hd.mk (ex_alloc HB6.out (.cells #[.int .i64 c6.b, .int .i64 c6.h, .int .i64 c6.r, .int .i64 c6.l] 36))
            clear hp6 hv6 hl6
            go_wp2_with fail
            generalize w6.alloc (.cells #[.int .i64 c6.b, .int .i64 c6.h, .int .i64 c6.r, .int .i64 c6.l] 36) = w7 at HN7 HL7 HB7 ⊢
            generalize w6.heap.size = g6' at HN7 ⊢
            obtain ⟨n0, n1, n2, n3⟩ := HN7.out.cells
            obtain ⟨l0, l1, l2, l3⟩ := HL7.out.cells
            dsimp only at l0 l1 l2 l3
            have kn0 := cell_regrown n0
            have kn1 := cell_regrown n1
            have kn2 := cell_regrown n2
            have kn3 := cell_regrown n3
            have kl0 := cell_regrown l0
            have kl1 := cell_regrown l1
            have kl2 := cell_regrown l2
            have kl3 := cell_regrown l3
            have hqa : ∀ d os, Calls Tryd.prog 38 #[.agg #[.int .i64 (a : Int), .int .i64 ch, .int .i64 cr, .int .i64 cl], .int .i64 u] (grow (redrawn w7 d) os) fun e w'' => e = .returned (.int .i64 vl) ∧ ∃ p : Regrown, w'' = grow (redrawn w7 p.d) p.os := fun d os => by rw [HVL.out, ← HLC.out]; exact Calls.regrown_of (refIn_calls ⟨(a : Int), ch, cr, cl⟩ u _)
            have hqb : ∀ d os, Calls Tryd.prog 38 #[.agg #[.int .i64 c6.b, .int .i64 c6.h, .int .i64 c6.r, .int .i64 c6.l], .int .i64 u] (grow (redrawn w7 d) os) fun e w'' => e = .returned (.int .i64 col) ∧ ∃ p : Regrown, w'' = grow (redrawn w7 p.d) p.os := fun d os => by rw [← HV6.out]; exact Calls.regrown_of (refIn_calls c6 u _)
            obtain ⟨hc1, hc2⟩ := hc
            have hww : IntKind.i64.wrap (vl + col) = vl + col := by rw [IntKind.wrap_i64] <;> omega
            refine wp_region_quiet_below (by kernel_rfl) (by kernel_rfl) ?_
            repeat (quiet_step (first | (go_at_call_of 38 (Value.agg #[.int .i64 (a : Int), .int .i64 ch, .int .i64 cr, .int .i64 cl]); exact hqa _ _) | (go_at_call_of 38 (Value.agg #[.int .i64 c6.b, .int .i64 c6.h, .int .i64 c6.r, .int .i64 c6.l]); exact hqb _ _)))
            refine wpQuiet_nil ?_
            rintro _ ⟨⟨dq8, oq8⟩, rfl⟩
            have hbg8 := below_regrown w7 dq8 oq8
            have HB8 := Hd.mk (bstep HB7.out hbg8)
            generalize grow (redrawn w7 dq8) oq8 = w8 at HB8 ⊢
            clear hbg8 kn0 kn1 kn2 kn3 kl0 kl1 kl2 kl3 hqa hqb n0 n1 n2 n3 l0 l1 l2 l3
            go_wp2_with fail
            go_ret2
            exact ⟨HB8.out, vl + col, 0, rfl, fun h => absurd h (by have := HU.out; omega), fun _ h => absurd h HNN.out, fun _ _ => ⟨_, _, _, HD.out, fun h => absurd h (by have := HCC2.out; have := HLE.out; omega), fun _ => ⟨c6, HR6.out, fun _ => by rw [HVL.out], fun h => absurd rfl h⟩⟩⟩
          · have hk6' : (k6 == 0) = false := by rw [beq_eq_false_iff_ne]; exact hk6
            have HK6 := Hd.mk hk6
            clear hk6
            go_wp2_with fail
            go_ret2
            exact ⟨ex_alloc HB6.out _, 0, k6, rfl, fun h => absurd h (by have := HU.out; omega), fun _ h => absurd h HNN.out, fun _ _ => ⟨_, _, _, HD.out, fun h => absurd h (by have := HCC2.out; have := HLE.out; omega), fun _ => ⟨c6, HR6.out, fun h => absurd (erV_inj (b := 0) h) HK6.out, fun _ => rfl⟩⟩⟩
        · have HCC2 := Hd.mk hc
          have hqi : ∀ d os, Calls Tryd.prog 87 #[.int .i64 col, .int .i64 0, .int .i64 le] (grow (redrawn w4 d) os) fun e w'' => e = .returned (.bool false) ∧ ∃ p : Regrown, w'' = grow (redrawn w4 p.d) p.os := fun d os => (inF HCC2.out (grow (redrawn w4 d) os)).mono (by rintro e w' ⟨rfl, rfl⟩; exact ⟨rfl, ⟨d, os⟩, rfl⟩)
          clear hc
          refine wp_region_quiet_below (by kernel_rfl) (by kernel_rfl) ?_
          repeat (quiet_step (first | (go_at_call 38; exact hqn _ _) | (go_at_call 87; exact hqi _ _)))
          refine wpQuiet_nil ?_
          rintro _ ⟨⟨dq, oq⟩, rfl⟩
          have hbg := below_regrown w4 dq oq
          have HB5 := Hd.mk (bstep HB4.out hbg)
          generalize grow (redrawn w4 dq) oq = w5 at HB5 ⊢
          clear hbg ks0 ks1 kn0 kn1 kn2 kn3 hqn hqi s0 s1 n0 n1 n2 n3
          go_wp2_with fail
          go_ret2
          exact ⟨HB5.out, 0, 2, rfl, fun h => absurd h (by have := HU.out; omega), fun _ h => absurd h HNN.out, fun _ _ => ⟨_, _, _, HD.out, fun _ => ⟨rfl, rfl⟩, fun h => absurd (by have := HCC2.out; have := HLE.out; omega) h⟩⟩
      · have hix := HIX.out.2 htl
        have HII : ∀ w, Hd (Calls Tryd.prog 110 #[.string ((ByteArray.mk (U.encs R).toArray).extract a m), .int .u8 10] w fun e w' => e = .returned (.int .i64 (b : Int)) ∧ w' = w) := fun w => ⟨by
          rw [HS1'.out, ← hix]
          exact indexByte_calls ⟨(U.encs (ln ++ tl)).toArray⟩ w⟩
        have HCC : ∀ w, Hd (Calls Tryd.prog 18 #[.string (((ByteArray.mk (U.encs R).toArray).extract a m).extract 0 b)] w fun e w' => e = .returned (.tuple #[(cnt ln).v, fltV 0 (-1)]) ∧ Below w.heap.size w w') := fun w => ⟨by
          rw [HS1'.out, HS2'.out]
          exact (HCN.out w).mono (by rintro e w' ⟨hb, he, -⟩; exact ⟨he rfl, hb⟩)⟩
        have HAA : ∀ w, Hd (Calls Tryd.prog 49 #[.string (((ByteArray.mk (U.encs R).toArray).extract a m).extract 0 b), .int .i64 u, .int .i64 col] w (RAPost u col ln w)) := fun w => ⟨by
          rw [HS1'.out, HS2'.out]
          exact HAH.out w⟩
        have hsz1 : b ≤ ((ByteArray.mk (U.encs R).toArray).extract a m).size := by rw [HS1'.out]; exact g6
        have hsz2 : (b : Int) ≤ (((ByteArray.mk (U.encs R).toArray).extract a m).size : Int) := by omega
        clear hix htl
        go_wp2_with (first
          | (go_at_call 110; refine (HII _).out.mono ?_; rintro e w3 ⟨rfl, rfl⟩)
          | (go_at_call 18; refine (HCC _).out.mono ?_; rintro e w2 ⟨rfl, hb2⟩; have HB3 := Hd.mk (bstep HB2.out hb2); have HL3 := Hd.mk (HL2.out.below hb2 HL2.out.lt); have HS3 := Hd.mk (HS2.out.below hb2 HS2.out.lt); clear hb2; unfold fltV))
        have hl2 : CnBlk ((w2.alloc (.cells #[.int .i64 (cnt ln).b, .int .i64 (cnt ln).h, .int .i64 (cnt ln).r, .int .i64 (cnt ln).l] 36)).alloc (.cells #[.int .i64 0, .int .i64 (-1)] 25)) w2.heap.size (cnt ln) := CnBlk.below (heap_alloc_new w2 _) (ex_alloc (Below.refl _ _) _) (by simp only [World.size_alloc]; omega)
        have HN4 := Hd.mk hl2
        have hx2 := ex_alloc (ex_alloc (Below.refl w2.heap.size w2) (.cells #[.int .i64 (cnt ln).b, .int .i64 (cnt ln).h, .int .i64 (cnt ln).r, .int .i64 (cnt ln).l] 36)) (.cells #[.int .i64 0, .int .i64 (-1)] 25)
        have HL4 := Hd.mk (HL3.out.below hx2 HL3.out.lt)
        have HS4 := Hd.mk (HS3.out.below hx2 HS3.out.lt)
        have HB4 := Hd.mk (bstep HB3.out hx2)
        clear hl2 hx2
        generalize ((w2.alloc (.cells #[.int .i64 (cnt ln).b, .int .i64 (cnt ln).h, .int .i64 (cnt ln).r, .int .i64 (cnt ln).l] 36)).alloc (.cells #[.int .i64 0, .int .i64 (-1)] 25)) = w4 at HN4 HL4 HS4 HB4 ⊢
        obtain ⟨nc, hnc⟩ : ∃ x, x = cnt ln := ⟨_, rfl⟩
        have HNC := Hd.mk hnc
        rw [← hnc] at HN4 ⊢
        generalize w2.heap.size = g2 at HN4 ⊢
        generalize hgl : w1.heap.size = g1 at HL4 ⊢
        clear hnc hgl HB3 HL3 HS3 HB2 HL2 HS2
        have s0 := HS4.out.cell 0
        have s1 := HS4.out.cell 1
        simp only [List.getElem?_toArray, List.getElem?_cons_zero, List.getElem?_cons_succ] at s0 s1
        obtain ⟨n0, n1, n2, n3⟩ := HN4.out.cells
        have ks0 := cell_regrown s0
        have ks1 := cell_regrown s1
        have kn0 := cell_regrown n0
        have kn1 := cell_regrown n1
        have kn2 := cell_regrown n2
        have kn3 := cell_regrown n3
        have hqn : ∀ d os, Calls Tryd.prog 38 #[.agg #[.int .i64 nc.b, .int .i64 nc.h, .int .i64 nc.r, .int .i64 nc.l], .int .i64 u] (grow (redrawn w4 d) os) fun e w'' => e = .returned (.int .i64 le) ∧ ∃ p : Regrown, w'' = grow (redrawn w4 p.d) p.os := fun d os => by rw [HLE.out, ← HNC.out]; exact Calls.regrown_of (refIn_calls nc u _)
        by_cases hc : 0 ≤ col ∧ col ≤ le
        · have HCC2 := Hd.mk hc
          have hqi : ∀ d os, Calls Tryd.prog 87 #[.int .i64 col, .int .i64 0, .int .i64 le] (grow (redrawn w4 d) os) fun e w'' => e = .returned (.bool true) ∧ ∃ p : Regrown, w'' = grow (redrawn w4 p.d) p.os := fun d os => (inT HCC2.out (grow (redrawn w4 d) os)).mono (by rintro e w' ⟨rfl, rfl⟩; exact ⟨rfl, ⟨d, os⟩, rfl⟩)
          refine wp_region_quiet_below (by kernel_rfl) (by kernel_rfl) ?_
          repeat (quiet_step (first | (go_at_call 38; exact hqn _ _) | (go_at_call 87; exact hqi _ _)))
          refine wpQuiet_nil ?_
          rintro _ ⟨⟨dq, oq⟩, rfl⟩
          have hbg := below_regrown w4 dq oq
          have HB5 := Hd.mk (bstep HB4.out hbg)
          have HS5 := Hd.mk (HS4.out.below hbg HS4.out.lt)
          have HL5 := Hd.mk (HL4.out.below hbg HL4.out.lt)
          generalize grow (redrawn w4 dq) oq = w5 at HB5 HS5 HL5 ⊢
          clear hbg ks0 ks1 kn0 kn1 kn2 kn3 hqn hqi s0 s1 n0 n1 n2 n3
          have s1 := HS5.out.cell 1
          simp only [List.getElem?_toArray, List.getElem?_cons_zero, List.getElem?_cons_succ] at s1
          go_wp2_with fail
          refine (HAA _).out.mono ?_
          rintro e w6 ⟨hb6, c6, k6, rfl, hr6⟩
          have HB6 := Hd.mk (bstep HB5.out hb6)
          have HL6 := Hd.mk (HL5.out.below hb6 HL5.out.lt)
          have HR6 := Hd.mk hr6
          clear hb6 hr6 s1
          by_cases hk6 : k6 = 0
          · subst hk6
            have hp6 := HR6.out.nil
            have hv6 : c6.of u = col := by obtain ⟨x, y, -, e, rfl⟩ := hp6; exact e
            have HV6 := Hd.mk hv6
            have hl6 : CnBlk (w6.alloc (.cells #[.int .i64 c6.b, .int .i64 c6.h, .int .i64 c6.r, .int .i64 c6.l] 36)) w6.heap.size c6 := heap_alloc_new w6 _
            have HN7 := Hd.mk hl6
            have HL7 := Hd.mk (HL6.out.below (ex_alloc (Below.refl _ _) (.cells #[.int .i64 c6.b, .int .i64 c6.h, .int .i64 c6.r, .int .i64 c6.l] 36)) HL6.out.lt)
            have HB7 := Hd.mk (ex_alloc HB6.out (.cells #[.int .i64 c6.b, .int .i64 c6.h, .int .i64 c6.r, .int .i64 c6.l] 36))
            clear hp6 hv6 hl6
            go_wp2_with fail
            generalize w6.alloc (.cells #[.int .i64 c6.b, .int .i64 c6.h, .int .i64 c6.r, .int .i64 c6.l] 36) = w7 at HN7 HL7 HB7 ⊢
            generalize w6.heap.size = g6' at HN7 ⊢
            obtain ⟨n0, n1, n2, n3⟩ := HN7.out.cells
            obtain ⟨l0, l1, l2, l3⟩ := HL7.out.cells
            dsimp only at l0 l1 l2 l3
            have kn0 := cell_regrown n0
            have kn1 := cell_regrown n1
            have kn2 := cell_regrown n2
            have kn3 := cell_regrown n3
            have kl0 := cell_regrown l0
            have kl1 := cell_regrown l1
            have kl2 := cell_regrown l2
            have kl3 := cell_regrown l3
            have hqa : ∀ d os, Calls Tryd.prog 38 #[.agg #[.int .i64 (a : Int), .int .i64 ch, .int .i64 cr, .int .i64 cl], .int .i64 u] (grow (redrawn w7 d) os) fun e w'' => e = .returned (.int .i64 vl) ∧ ∃ p : Regrown, w'' = grow (redrawn w7 p.d) p.os := fun d os => by rw [HVL.out, ← HLC.out]; exact Calls.regrown_of (refIn_calls ⟨(a : Int), ch, cr, cl⟩ u _)
            have hqb : ∀ d os, Calls Tryd.prog 38 #[.agg #[.int .i64 c6.b, .int .i64 c6.h, .int .i64 c6.r, .int .i64 c6.l], .int .i64 u] (grow (redrawn w7 d) os) fun e w'' => e = .returned (.int .i64 col) ∧ ∃ p : Regrown, w'' = grow (redrawn w7 p.d) p.os := fun d os => by rw [← HV6.out]; exact Calls.regrown_of (refIn_calls c6 u _)
            obtain ⟨hc1, hc2⟩ := hc
            have hww : IntKind.i64.wrap (vl + col) = vl + col := by rw [IntKind.wrap_i64] <;> omega
            refine wp_region_quiet_below (by kernel_rfl) (by kernel_rfl) ?_
            repeat (quiet_step (first | (go_at_call_of 38 (Value.agg #[.int .i64 (a : Int), .int .i64 ch, .int .i64 cr, .int .i64 cl]); exact hqa _ _) | (go_at_call_of 38 (Value.agg #[.int .i64 c6.b, .int .i64 c6.h, .int .i64 c6.r, .int .i64 c6.l]); exact hqb _ _)))
            refine wpQuiet_nil ?_
            rintro _ ⟨⟨dq8, oq8⟩, rfl⟩
            have hbg8 := below_regrown w7 dq8 oq8
            have HB8 := Hd.mk (bstep HB7.out hbg8)
            generalize grow (redrawn w7 dq8) oq8 = w8 at HB8 ⊢
            clear hbg8 kn0 kn1 kn2 kn3 kl0 kl1 kl2 kl3 hqa hqb n0 n1 n2 n3 l0 l1 l2 l3
            go_wp2_with fail
            go_ret2
            exact ⟨HB8.out, vl + col, 0, rfl, fun h => absurd h (by have := HU.out; omega), fun _ h => absurd h HNN.out, fun _ _ => ⟨_, _, _, HD.out, fun h => absurd h (by have := HCC2.out; have := HLE.out; omega), fun _ => ⟨c6, HR6.out, fun _ => by rw [HVL.out], fun h => absurd rfl h⟩⟩⟩
          · have hk6' : (k6 == 0) = false := by rw [beq_eq_false_iff_ne]; exact hk6
            have HK6 := Hd.mk hk6
            clear hk6
            go_wp2_with fail
            go_ret2
            exact ⟨ex_alloc HB6.out _, 0, k6, rfl, fun h => absurd h (by have := HU.out; omega), fun _ h => absurd h HNN.out, fun _ _ => ⟨_, _, _, HD.out, fun h => absurd h (by have := HCC2.out; have := HLE.out; omega), fun _ => ⟨c6, HR6.out, fun h => absurd (erV_inj (b := 0) h) HK6.out, fun _ => rfl⟩⟩⟩
        · have HCC2 := Hd.mk hc
          have hqi : ∀ d os, Calls Tryd.prog 87 #[.int .i64 col, .int .i64 0, .int .i64 le] (grow (redrawn w4 d) os) fun e w'' => e = .returned (.bool false) ∧ ∃ p : Regrown, w'' = grow (redrawn w4 p.d) p.os := fun d os => (inF HCC2.out (grow (redrawn w4 d) os)).mono (by rintro e w' ⟨rfl, rfl⟩; exact ⟨rfl, ⟨d, os⟩, rfl⟩)
          clear hc
          refine wp_region_quiet_below (by kernel_rfl) (by kernel_rfl) ?_
          repeat (quiet_step (first | (go_at_call 38; exact hqn _ _) | (go_at_call 87; exact hqi _ _)))
          refine wpQuiet_nil ?_
          rintro _ ⟨⟨dq, oq⟩, rfl⟩
          have hbg := below_regrown w4 dq oq
          have HB5 := Hd.mk (bstep HB4.out hbg)
          generalize grow (redrawn w4 dq) oq = w5 at HB5 ⊢
          clear hbg ks0 ks1 kn0 kn1 kn2 kn3 hqn hqi s0 s1 n0 n1 n2 n3
          go_wp2_with fail
          go_ret2
          exact ⟨HB5.out, 0, 2, rfl, fun h => absurd h (by have := HU.out; omega), fun _ h => absurd h HNN.out, fun _ _ => ⟨_, _, _, HD.out, fun _ => ⟨rfl, rfl⟩, fun h => absurd (by have := HCC2.out; have := HLE.out; omega) h⟩⟩
  · have HU := Hd.mk hu
    clear hu
    go_enter Tryd.func53, Tryd.ntmps53
    go_wp2_with (first
      | (go_at_call 87; refine (inF HU.out _).mono ?_; rintro e w3 ⟨rfl, rfl⟩))
    go_ret2
    exact ⟨ex_alloc (Below.refl _ _) _, 0, 1, rfl, fun _ => ⟨rfl, rfl⟩, fun h => absurd (by have := HU.out; omega) h, fun h => absurd (by have := HU.out; omega) h⟩
end
end Go.Proofs.YtgokmldngnmmhaaDoor
