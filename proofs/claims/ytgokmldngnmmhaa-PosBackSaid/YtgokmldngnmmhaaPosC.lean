/- pos.Convert, pos.Spot, pos.Place. -/
import Derived.Test.YtgokmldngnmmhaaRopeX
namespace Go.Proofs.Ytgokmldngnmmhaa
open Go.RowKit
set_option maxRecDepth 100000
theorem ahead_cases {u at_ : Int} {R : List Int} {c : Cn} {er : Value} (h : AheadR u at_ R c er) : (er = .nilIface ∧ Pl u at_ R c ∧ ¬ (u < 1 ∨ 3 < u) ∧ ¬ (at_ < 0 ∨ (cnt R).of u < at_)) ∨ ∃ k, er = errno k ∧ c = Cn.zero ∧ 1 ≤ k ∧ ∀ c', ¬ (Pl u at_ R c' ∧ 1 ≤ u ∧ u ≤ 3) := by
  obtain ⟨h1, h2, h3⟩ := h
  by_cases hu : u < 1 ∨ 3 < u
  · exact .inr ⟨1, (h1 hu).2, (h1 hu).1, by omega, fun c' e => by omega⟩
  · by_cases ha : at_ < 0 ∨ (cnt R).of u < at_
    · exact .inr ⟨2, (h2 hu ha).2, (h2 hu ha).1, by omega, fun c' e => by have := e.1.range; omega⟩
    · rcases h3 hu ha with ⟨e1, e2⟩ | ⟨e1, e2, e3⟩
      · exact .inl ⟨e1, e2, hu, ha⟩
      · exact .inr ⟨10, e1, e2, by omega, fun c' e => e3 c' e.1⟩
theorem Pl.l {u at_ : Int} {R : List Int} {c : Cn} (h : Pl u at_ R c) : 0 ≤ c.l ∧ c.l ≤ (cnt R).l := by
  obtain ⟨p, q, rfl, -, rfl⟩ := h
  rw [cnt_app_l]
  have := l_nn p
  have := l_nn q
  omega
theorem Pl.of_le {u at_ : Int} {R : List Int} {c : Cn} (h : Pl u at_ R c) (hR : R.length ≤ 8000) (v : Int) : 0 ≤ c.of v ∧ c.of v ≤ 32000 := by
  obtain ⟨p, q, rfl, -, rfl⟩ := h
  simp only [List.length_append] at hR
  exact ⟨of_nn _ _, by have := Go.Proofs.Ytgokmldngnmmhaa.of_le (rs := p) (n := 8000) (by omega) v; omega⟩
theorem Ln.of_le {n : Int} {R : List Int} {c : Cn} (h : Ln n R c) (hR : R.length ≤ 8000) (v : Int) : 0 ≤ c.of v ∧ c.of v ≤ 32000 := by
  obtain ⟨p, q, rfl, -, rfl, -⟩ := h
  simp only [List.length_append] at hR
  exact ⟨of_nn _ _, by have := Go.Proofs.Ytgokmldngnmmhaa.of_le (rs := p) (n := 8000) (by omega) v; omega⟩
/-- A line begins ahead of whatever lies in it. -/
theorem ln_le {p q : List Int} {lc : Cn} {u : Int} (h : Ln (cnt p).l (p ++ q) lc) : lc.of u ≤ (cnt p).of u := by
  obtain ⟨p', q', e1, e2, rfl, e3⟩ := h
  rcases pre_le e1 with ⟨d, h1, h2⟩ | ⟨d, h1, h2⟩
  · rw [h1, cnt_app_l] at e2
    rcases List.eq_nil_or_concat d with rfl | ⟨d', y, rfl⟩
    · rw [List.append_nil] at h1; rw [h1]; omega
    · exfalso
      rcases e3 with e3 | ⟨p3, e3⟩
      · rw [h1] at e3; simp at e3
      · rw [h1, List.concat_eq_append, ← List.append_assoc] at e3
        have hy := (List.append_inj' e3 rfl).2
        simp at hy
        subst hy
        rw [List.concat_eq_append, cnt_app_l, cnt_one_l] at e2
        have := l_nn d'
        simp at e2
        omega
  · rw [h1, cnt_app_of]; have := of_nn d u; omega
/-- The next line begins behind it. -/
theorem ln_next {p q : List Int} {nx : Cn} {u : Int} (hu : 1 ≤ u ∧ u ≤ 3) (h : Ln ((cnt p).l + 1) (p ++ q) nx) : (cnt p).of u + 1 ≤ nx.of u := by
  obtain ⟨p', q', e1, e2, rfl, e3⟩ := h
  rcases pre_le e1 with ⟨d, h1, h2⟩ | ⟨d, h1, h2⟩
  · rw [h1, cnt_app_l] at e2
    rw [h1, cnt_app_of]
    have hd : d ≠ [] := by rintro rfl; rw [cnt_nil] at e2; change _ + (0 : Int) = _ at e2; omega
    have := of_len d hu
    have := List.length_pos_iff.2 hd
    omega
  · rw [h1, cnt_app_l] at e2
    have := l_nn d
    omega
def ConvPost (u v at_ : Int) (R : List Int) (w : World) (e : Ending) (w' : World) : Prop :=
  Below w.heap.size w w' ∧ ((∃ c, Pl u at_ R c ∧ e = .returned (.tuple #[.int .i64 (c.of v), .nilIface])) ∨ ((∀ c, ¬ Pl u at_ R c) ∧ ∃ k, 1 ≤ k ∧ e = .returned (.tuple #[.int .i64 0, errno k])))
attribute [local go_sem] Cn.v_eq
set_option maxHeartbeats 4000000 in
theorem convert_calls {p : Nat} {t : RT} {w : World} {u v at_ : Int} (h : AtR w p t) (hg : Good t) (hu : 1 ≤ u ∧ u ≤ 3) (hv : 1 ≤ v ∧ v ≤ 3) :
    Calls Try.prog 9 #[.pointer (some ⟨p, 0, none⟩), .int .i64 u, .int .i64 v, .int .i64 at_] w (ConvPost u v at_ t.runes w) := by
  have HA := Hd.mk (ahead_calls (u := u) (at_ := at_) h hg)
  have HU := Hd.mk hu
  have i1 : ¬ v < 1 := by omega
  have i2 : ¬ 3 < v := by omega
  clear h hg hu hv
  go_enter Try.func9, Try.ntmps9
  go_wp2_with fail
  refine HA.out.mono ?_
  rintro e w1 ⟨hb, c, er, rfl, hr⟩
  have HB := Hd.mk hb
  have HRR := Hd.mk hr
  have hcs := ahead_cases hr
  clear hb hr
  rcases hcs with ⟨rfl, hp, -, -⟩ | ⟨k, rfl, rfl, hk, hno⟩
  · have HP := Hd.mk hp
    clear hp
    go_wp2_with (go_at_call 7; refine (in_calls c v _).mono ?_; rintro e w2 ⟨rfl, hb2⟩; have HB2 := Hd.mk hb2; clear hb2)
    go_ret2
    exact ⟨bstep (ex_alloc HB.out _) HB2.out, .inl ⟨c, HP.out, rfl⟩⟩
  · have HK := Hd.mk hk
    have HNO := Hd.mk hno
    clear hk hno
    unfold errno
    go_wp2_with fail
    go_ret2
    exact ⟨ex_alloc HB.out _, .inr ⟨fun c hc => HNO.out c ⟨hc, HU.out⟩, k, HK.out, rfl⟩⟩
/-- A result of two cells that is being laid, beside two counts. -/
def SpS (W : World) (B : Nat) (w' : World) : Prop := Only (fun k => k = B) W w' ∧ ∃ x y, Blk w' B 35 #[x, y]
abbrev SpX (W : World) (g y : Nat) (c lc : Cn) (B : Nat) (w' : World) : Prop := SpS W B w' ∧ w'.cell? ⟨g, 0, none⟩ = some (.int .i64 c.b) ∧ w'.cell? ⟨g, 1, none⟩ = some (.int .i64 c.h) ∧ w'.cell? ⟨g, 2, none⟩ = some (.int .i64 c.r) ∧ w'.cell? ⟨g, 3, none⟩ = some (.int .i64 c.l) ∧
  w'.cell? ⟨y, 0, none⟩ = some (.int .i64 lc.b) ∧ w'.cell? ⟨y, 1, none⟩ = some (.int .i64 lc.h) ∧ w'.cell? ⟨y, 2, none⟩ = some (.int .i64 lc.r) ∧ w'.cell? ⟨y, 3, none⟩ = some (.int .i64 lc.l) ∧
  w'.cell? ⟨B, 0, none⟩ = some (cv w' B 0) ∧ w'.cell? ⟨B, 1, none⟩ = some (cv w' B 1) ∧ (∀ i, w'.frozen? ⟨B, i, none⟩ = false) ∧ B < w'.heap.size
theorem sp_x {W w' : World} {g y B : Nat} {c lc : Cn} (hc : CnBlk W g c) (hl : CnBlk W y lc) (hg : g ≠ B) (hy : y ≠ B) (h : SpS W B w') : SpX W g y c lc B w' := by
  obtain ⟨ho, a, b, hb⟩ := h
  have hc' : CnBlk w' g c := (ho.block g hc.lt hg).trans hc
  have hl' : CnBlk w' y lc := (ho.block y hl.lt hy).trans hl
  obtain ⟨q0, q1, q2, q3⟩ := hc'.cells
  obtain ⟨l0, l1, l2, l3⟩ := hl'.cells
  exact ⟨⟨ho, a, b, hb⟩, q0, q1, q2, q3, l0, l1, l2, l3, cv_of (hb.cell 0), cv_of (hb.cell 1), hb.frozen, hb.lt⟩
theorem SpX.sp {W w' : World} {g y B : Nat} {c lc : Cn} (h : SpX W g y c lc B w') : SpS W B w' := h.1
theorem SpS.drew {W w' : World} {B : Nat} (h : SpS W B w') : SpS W B w'.drew := ⟨h.1.drew, h.2⟩
theorem SpS.call {W w' w2 : World} {B : Nat} (h : SpS W B w') (hb : Below w'.heap.size w' w2) : SpS W B w2 := by
  obtain ⟨ho, a, b, hk⟩ := h
  exact ⟨ho.then_below hb, a, b, hk.below hb hk.lt⟩
theorem SpS.store1 {W w' : World} {B : Nat} (h : SpS W B w') (a b : Value) : Only (fun k => k = B) W ((w'.setCell ⟨B, 0, none⟩ a).setCell ⟨B, 1, none⟩ b) ∧ Blk ((w'.setCell ⟨B, 0, none⟩ a).setCell ⟨B, 1, none⟩ b) B 35 #[a, b] := by
  obtain ⟨ho, _, _, hk⟩ := h
  exact ⟨(ho.setCell (p := ⟨B, 0, none⟩) (.inl rfl) a).setCell (p := ⟨B, 1, none⟩) (.inl rfl) b, (hk.set_ 0 a).set_ 1 b⟩
theorem SpS.store {W w' : World} {B : Nat} (h : SpS W B w') (a b : Value) : SpS W B ((w'.setCell ⟨B, 0, none⟩ a).setCell ⟨B, 1, none⟩ b) := by
  obtain ⟨ho, _, _, hk⟩ := h
  exact ⟨(ho.setCell (p := ⟨B, 0, none⟩) (.inl rfl) a).setCell (p := ⟨B, 1, none⟩) (.inl rfl) b, _, _, (hk.set_ 0 a).set_ 1 b⟩
def SpotPost (u at_ : Int) (R : List Int) (w : World) (e : Ending) (w' : World) : Prop :=
  Below w.heap.size w w' ∧ ((∃ c lc, Pl u at_ R c ∧ Ln c.l R lc ∧ e = .returned (.tuple #[.agg #[.int .i64 c.l, .int .i64 (c.of u - lc.of u)], .nilIface])) ∨ ((∀ c, ¬ Pl u at_ R c) ∧ ∃ k, 1 ≤ k ∧ e = .returned (.tuple #[.agg #[.int .i64 0, .int .i64 0], errno k])))
set_option maxHeartbeats 4000000 in
theorem spot_calls {p : Nat} {t : RT} {w : World} {u at_ : Int} (h : AtR w p t) (hg : Good t) (hu : 1 ≤ u ∧ u ≤ 3) :
    Calls Try.prog 10 #[.pointer (some ⟨p, 0, none⟩), .int .i64 u, .int .i64 at_] w (SpotPost u at_ t.runes w) := by
  have HA := Hd.mk (fun w1 (hb : Below w.heap.size w w1) => ahead_calls (u := u) (at_ := at_) (h.below hb) hg)
  have HL := Hd.mk (fun n w1 (hb : Below w.heap.size w w1) => line_calls (n := n) (h.below hb) hg)
  have HU := Hd.mk hu
  have HTL : Hd (t.runes.length ≤ 8000) := ⟨by have := bl_len t.runes; have := hg.sz; omega⟩
  clear h hg hu
  go_enter Try.func10, Try.ntmps10
  go_wp2_with fail
  refine (HA.out _ (ex_alloc (Below.refl _ _) _)).mono ?_
  rintro e w1 ⟨hb, c, er, rfl, hr⟩
  have hR1 : Blk w1 w.heap.size 35 #[.int .i64 0, .int .i64 0] := (Blk.new w 35 _).below hb (by simp)
  have HB := Hd.mk (bstep (ex_alloc (Below.refl _ _) _) hb)
  have HR1 := Hd.mk hR1
  have r0 := hR1.cell 0
  have r1 := hR1.cell 1
  have rf := hR1.frozen
  have rl := hR1.lt
  simp only [List.getElem?_toArray, List.getElem?_cons_zero, List.getElem?_cons_succ] at r0 r1
  have hcs := ahead_cases hr
  clear hb hr hR1
  rcases hcs with ⟨rfl, hp, -, -⟩ | ⟨k, rfl, rfl, hk, hno⟩
  · have HP := Hd.mk hp
    have hcl := hp.l
    have HCL := Hd.mk hcl
    have hco := hp.of_le HTL.out u
    clear hp hcl
    go_wp2_with fail
    refine (HL.out _ _ (ex_alloc HB.out _)).mono ?_
    rintro e w2 ⟨hb2, lc, er, rfl, hr2⟩
    obtain ⟨rfl, hln⟩ := hr2.2 (by have := HCL.out; omega)
    have hlo := hln.of_le HTL.out u
    have HLN := Hd.mk hln
    have HB2 := Hd.mk (bstep (ex_alloc HB.out _) hb2)
    have hc2 : CnBlk w2 w1.heap.size c := CnBlk.below (heap_alloc_new w1 _) hb2 (by simp)
    have hR2 : Blk w2 w.heap.size 35 #[.int .i64 0, .int .i64 0] := (HR1.out.alloc _).below hb2 (by simp; omega)
    have hne : w.heap.size ≠ w1.heap.size := by omega
    clear r0 r1 rf rl
    obtain ⟨q0, q1, q2, q3⟩ := hc2.cells
    have ql := hc2.lt
    have r0 := hR2.cell 0
    have r1 := hR2.cell 1
    have rf := hR2.frozen
    have rl := hR2.lt
    simp only [List.getElem?_toArray, List.getElem?_cons_zero, List.getElem?_cons_succ] at r0 r1
    have HR2 := Hd.mk hR2
    have HC2 := Hd.mk hc2
    clear hb2 hr2 hln hc2 hR2
    have hl2 : CnBlk (w2.alloc (.cells #[.int .i64 lc.b, .int .i64 lc.h, .int .i64 lc.r, .int .i64 lc.l] 28)) w2.heap.size lc := heap_alloc_new w2 _
    have HLW := Hd.mk hl2
    have HCW : Hd (CnBlk (w2.alloc (.cells #[.int .i64 lc.b, .int .i64 lc.h, .int .i64 lc.r, .int .i64 lc.l] 28)) w1.heap.size c) := ⟨HC2.out.below (ex_alloc (Below.refl _ _) _) HC2.out.lt⟩
    have HRW : Hd (Blk (w2.alloc (.cells #[.int .i64 lc.b, .int .i64 lc.h, .int .i64 lc.r, .int .i64 lc.l] 28)) w.heap.size 35 #[.int .i64 0, .int .i64 0]) := ⟨HR2.out.alloc _⟩
    have HBW := Hd.mk (ex_alloc HB2.out (.cells #[.int .i64 lc.b, .int .i64 lc.h, .int .i64 lc.r, .int .i64 lc.l] 28))
    have HNE : Hd (w1.heap.size ≠ w.heap.size ∧ w2.heap.size ≠ w.heap.size) := ⟨by omega, by omega⟩
    clear hl2
    go_wp2_with fail
    generalize w2.alloc (.cells #[.int .i64 lc.b, .int .i64 lc.h, .int .i64 lc.r, .int .i64 lc.l] 28) = wc at HLW HCW HRW HBW ⊢
    have HS0 : Hd (SpS wc w.heap.size wc) := ⟨Only.refl _ _, _, _, HRW.out⟩
    generalize hg1 : w1.heap.size = g1 at *
    generalize hg2 : w2.heap.size = g2 at *
    generalize hB : w.heap.size = B at *
    clear r0 r1 rf rl q0 q1 q2 q3 ql hne
    obtain ⟨q0, q1, q2, q3⟩ := HCW.out.cells
    obtain ⟨l0, l1, l2, l3⟩ := HLW.out.cells
    go_region_held3 (fun w' => SpS wc B w' ∧ w'.cell? ⟨g1, 0, none⟩ = some (.int .i64 c.b) ∧ w'.cell? ⟨g1, 1, none⟩ = some (.int .i64 c.h) ∧ w'.cell? ⟨g1, 2, none⟩ = some (.int .i64 c.r) ∧ w'.cell? ⟨g1, 3, none⟩ = some (.int .i64 c.l) ∧ w'.cell? ⟨g2, 0, none⟩ = some (.int .i64 lc.b) ∧ w'.cell? ⟨g2, 1, none⟩ = some (.int .i64 lc.h) ∧ w'.cell? ⟨g2, 2, none⟩ = some (.int .i64 lc.r) ∧ w'.cell? ⟨g2, 3, none⟩ = some (.int .i64 lc.l) ∧ w'.cell? ⟨B, 0, none⟩ = some (cv w' B 0) ∧ w'.cell? ⟨B, 1, none⟩ = some (cv w' B 1) ∧ (∀ i, w'.frozen? ⟨B, i, none⟩ = false) ∧ B < w'.heap.size)
      (first | exact (sp_x HCW.out HLW.out HNE.out.1 HNE.out.2 HS0.out.drew) | exact (sp_x HCW.out HLW.out HNE.out.1 HNE.out.2 (SpS.call (SpX.sp (by assumption)) (by assumption))) | exact (sp_x HCW.out HLW.out HNE.out.1 HNE.out.2 (SpS.store (SpX.sp (by assumption)) _ _)) | assumption)
      (first
        | (go_at_call_of 7 (c.b); refine (in_calls c u _).mono ?_; rintro e w' ⟨rfl, hb'⟩)
        | (go_at_call_of 7 (lc.b); refine (in_calls lc u _).mono ?_; rintro e w' ⟨rfl, hb'⟩))
    all_goals
      have hfin := SpS.store1 (SpS.call (SpS.call HS0.out.drew (by assumption)) hb') (.int .i64 c.l) (.int .i64 (c.of u - lc.of u))
      have HFIN := Hd.mk hfin
      clear hfin
      have hw3 : IntKind.i64.wrap (c.of u - lc.of u) = c.of u - lc.of u := by rw [IntKind.wrap_i64] <;> omega
      rw [hw3]
      generalize ((w'.setCell ⟨B, 0, none⟩ (.int .i64 c.l)).setCell ⟨B, 1, none⟩ (.int .i64 (c.of u - lc.of u))) = wf at HFIN ⊢
      have f0 := HFIN.out.2.cell 0
      have f1 := HFIN.out.2.cell 1
      simp only [List.getElem?_toArray, List.getElem?_cons_zero, List.getElem?_cons_succ] at f0 f1
      clear hw3 hb'
      go_wp2_with fail
      refine bodyPost_ret (v := .tuple #[.agg #[.int .i64 c.l, .int .i64 (c.of u - lc.of u)], .nilIface]) (by simp [results, Try.results10, go_sem, f0, f1]) rfl ?_
      refine ⟨?_, .inl ⟨c, lc, HP.out, HLN.out, rfl⟩⟩
      subst hB
      exact HBW.out.trans (HFIN.out.1.below HBW.out.size (fun k hk e => by omega))
  · have HK := Hd.mk hk
    have HNO := Hd.mk hno
    clear hk hno
    unfold errno
    go_wp2_with fail
    have hset := (HR1.out.set_ 0 (.int .i64 0)).set_ 1 (.int .i64 0)
    have hbl : Below w.heap.size w ((w1.setCell ⟨w.heap.size, 0, none⟩ (.int .i64 0)).setCell ⟨w.heap.size, 1, none⟩ (.int .i64 0)) := (HB.out.setCell (p := ⟨w.heap.size, 0, none⟩) (Nat.le_refl _) _).setCell (p := ⟨w.heap.size, 1, none⟩) (Nat.le_refl _) _
    have HSET := Hd.mk hset
    have HBL := Hd.mk hbl
    clear hset hbl
    have f0 := (HSET.out.alloc (.cells #[.int .i64 Cn.zero.b, .int .i64 Cn.zero.h, .int .i64 Cn.zero.r, .int .i64 Cn.zero.l] 28)).cell 0
    have f1 := (HSET.out.alloc (.cells #[.int .i64 Cn.zero.b, .int .i64 Cn.zero.h, .int .i64 Cn.zero.r, .int .i64 Cn.zero.l] 28)).cell 1
    simp only [List.setIfInBounds_toArray, List.set_cons_zero, List.set_cons_succ, List.getElem?_toArray, List.getElem?_cons_zero, List.getElem?_cons_succ] at f0 f1
    refine bodyPost_ret (v := .tuple #[.agg #[.int .i64 0, .int .i64 0], errno k]) (by simp [results, Try.results10, go_sem, f0, f1, errno]) rfl ?_
    exact ⟨ex_alloc HBL.out _, .inr ⟨fun c hc => HNO.out c ⟨hc, HU.out⟩, k, HK.out, rfl⟩⟩
end Go.Proofs.Ytgokmldngnmmhaa
