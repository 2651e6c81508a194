/- The reference's Ahead. -/
import Derived.Test.YtgokmldngnmmhaaDoorMShapePlays21
import Derived.Test.YtgokmldngnmmhaaDoorMShapePlays12
import Derived.Test.YtgokmldngnmmhaaDoorMShapePlays37
namespace Go.Proofs.YtgokmldngnmmhaaDoor
open Go.RowKit
set_option maxRecDepth 100000
namespace CL
theorem cnv_get {l : List Cn} : ∀ {k : Nat} {x : Cn}, l[k]? = some x → (cnv l)[k * 4]? = some (.int .i64 x.b) ∧ (cnv l)[k * 4 + 1]? = some (.int .i64 x.h) ∧ (cnv l)[k * 4 + 2]? = some (.int .i64 x.r) ∧ (cnv l)[k * 4 + 3]? = some (.int .i64 x.l) := by
  induction l with
  | nil => intro k x h; simp at h
  | cons y l ih =>
    intro k x h
    have e : cnv (y :: l) = y.cells ++ cnv l := by simp [cnv]
    cases k with
    | zero =>
      simp only [List.getElem?_cons_zero, Option.some.injEq] at h
      subst h
      rw [e]; exact ⟨rfl, rfl, rfl, rfl⟩
    | succ k =>
      simp only [List.getElem?_cons_succ] at h
      obtain ⟨h0, h1, h2, h3⟩ := ih h
      have g : ∀ j, (cnv (y :: l))[(k + 1) * 4 + j]? = (cnv l)[k * 4 + j]? := fun j => by
        rw [e, List.getElem?_append_right (by simp; omega)]
        congr 1; simp; omega
      exact ⟨(g 0).trans h0, (g 1).trans h1, (g 2).trans h2, (g 3).trans h3⟩
theorem sl_cn {w : World} {l : List Cn} {v : Value} {n : Nat} (h : Sl w 4 v n (cnv l)) (hn : 0 < n) : ∃ b o c, v = .slice (some ⟨b, o, none⟩) n c ∧ b < w.heap.size ∧
    ∀ k x, l[k]? = some x → w.cell? ⟨b, o + k * 4, none⟩ = some (.int .i64 x.b) ∧ w.cell? ⟨b, o + k * 4 + 1, none⟩ = some (.int .i64 x.h) ∧ w.cell? ⟨b, o + k * 4 + 2, none⟩ = some (.int .i64 x.r) ∧ w.cell? ⟨b, o + k * 4 + 3, none⟩ = some (.int .i64 x.l) := by
  obtain ⟨A, c, rfl, h2, _, _, _, h5⟩ := h
  obtain ⟨ad, rfl, hb, hc⟩ := h5 hn
  obtain ⟨b, o, p⟩ := ad
  have hp : p = none := by
    rw [cnv_length] at h2
    have hl : 0 < l.length := by omega
    have hz := hc 0 (.int .i64 (l[0]'hl).b) (cnv_get (List.getElem?_eq_getElem hl)).1
    have : (⟨b, o, p⟩ : Addr).add 0 = ⟨b, o, p⟩ := by unfold Addr.add; rfl
    rw [this] at hz
    cases p with
    | none => rfl
    | some x => unfold World.cell? at hz; split at hz <;> simp at hz
  subst hp
  refine ⟨b, o, c, rfl, hb, fun k x hx => ?_⟩
  obtain ⟨h0, h1, h2, h3⟩ := cnv_get hx
  have g0 := hc _ _ h0
  have g1 := hc _ _ h1
  have g2 := hc _ _ h2
  have g3 := hc _ _ h3
  have am : ∀ j, (⟨b, o, none⟩ : Addr).add j = ⟨b, o + j, none⟩ := fun j => by cases j <;> rfl
  rw [am] at g0 g1 g2 g3
  exact ⟨g0, g1, g2, g3⟩
end CL
def RAPost (u at_ : Int) (R : List Int) (w : World) (e : Ending) (w' : World) : Prop :=
  Below w.heap.size w w' ∧ ∃ c k, e = .returned (.tuple #[c.v, .int .i64 k]) ∧ AheadR u at_ R c (erV k)
attribute [local go_sem] Cn.v_eq
set_option maxHeartbeats 8000000 in
theorem rahead_calls {R : List Int} {u at_ : Int} {w : World} (hR : U.AllR R) (hl : bl R ≤ 1000000) :
    Calls Tryd.prog 49 #[.string ⟨(U.encs R).toArray⟩, .int .i64 u, .int .i64 at_] w (RAPost u at_ R w) := by
  have hlen : (U.encs R).length = bl R := rfl
  have HA := Hd.mk hR
  have HC := fun w1 => Hd.mk (rcount_calls (U.sp_encs hR) w1 (by rw [hlen]; omega))
  have HE := fun w1 => Hd.mk (redges_calls (w := w1) hR rfl (by rw [hlen]; omega))
  by_cases hu : 1 ≤ u ∧ u ≤ 3
  · obtain ⟨tot, htot⟩ : ∃ x, x = (cnt R).of u := ⟨_, rfl⟩
    have HTOT := Hd.mk htot
    by_cases ha : 0 ≤ at_ ∧ at_ ≤ tot
    · have hrl : R.length ≤ 1000000 := by have := bl_len R; omega
      have HU := Hd.mk hu
      have HAT := Hd.mk ha
      clear hR htot ha
      go_enter Tryd.func49, Tryd.ntmps49
      have hz0 : CnBlk (w.alloc (.cells #[.int .i64 0, .int .i64 0, .int .i64 0, .int .i64 0] 36)) w.heap.size Cn.zero := heap_alloc_new w _
      have HZ0 := Hd.mk hz0
      clear hz0
      go_wp2_with (first
        | (go_at_call_of 87 (Value.int .i64 u); refine (inT HU.out _).mono ?_; rintro e w3 ⟨rfl, rfl⟩)
        | (go_at_call 18; refine (HC _).out.mono ?_; rintro e w1 ⟨hb1, he, -⟩; obtain rfl := he rfl; have HB1 := Hd.mk (bstep (ex_alloc (Below.refl _ _) _) hb1); have hz1 := HZ0.out.below hb1 HZ0.out.lt; have HZ1 := Hd.mk hz1; clear hb1 he hz1; unfold fltV)
        | (go_at_call 38; refine (refIn_calls (cnt R) u _).mono ?_; rintro e w2 ⟨rfl, hb2⟩; rw [← HTOT.out]; have hz2 := (HZ1.out.below (ex_alloc (ex_alloc (Below.refl _ _) _) _) HZ1.out.lt).below hb2 (by have := HZ1.out.lt; simp only [World.size_alloc]; omega); have HZ2 := Hd.mk hz2; have HB2 := Hd.mk (bstep (ex_alloc (ex_alloc HB1.out _) _) hb2); clear hb2 hz2)
        | (go_at_call 87; refine (inT HAT.out _).mono ?_; rintro e w3 ⟨rfl, rfl⟩)
        | (go_at_call 23; refine (HE _).out.mono ?_; rintro e w4 ⟨⟨v, rfl, hsl⟩, hb4⟩; have HB4 := Hd.mk (bstep HB2.out hb4); have hz4 := HZ2.out.below hb4 HZ2.out.lt; have HZ4 := Hd.mk hz4; obtain ⟨b, o, c, rfl, hbw, hcell⟩ := CL.sl_cn hsl (by omega); have HCL := Hd.mk hcell; clear hb4 hz4 hsl hcell))
      go_loopg [31] (R.length + 1) (fun gk iv wr => ∃ k : Nat, iv = .int .i64 k ∧ k + gk = R.length + 1 ∧ Below w4.heap.size w4 wr ∧ (∀ j, j < k → (cnt (R.take j)).of u ≠ at_))
      case atStart => exact ⟨0, rfl, by omega, Below.refl _ _, fun j hj => by omega⟩
      case round =>
        obtain ⟨k, rfl, hk, hb, hno⟩ := hrel
        have HK := Hd.mk hk
        have HB := Hd.mk hb
        have HNO := Hd.mk hno
        by_cases hkr : k < R.length + 1
        · have hki : (k : Int) < (R.length : Int) + 1 := by omega
          have hx := edgs_at R (k := R.length) (j := k) (by omega)
          obtain ⟨x, hxe⟩ : ∃ x, x = cnt (R.take k) := ⟨_, rfl⟩
          rw [← hxe] at hx
          have HX := Hd.mk hxe
          obtain ⟨x0, x1, x2, x3⟩ := HCL.out k x hx
          rw [← hb.cell (p := ⟨b, o + k * 4, none⟩) hbw] at x0
          rw [← hb.cell (p := ⟨b, o + k * 4 + 1, none⟩) hbw] at x1
          rw [← hb.cell (p := ⟨b, o + k * 4 + 2, none⟩) hbw] at x2
          rw [← hb.cell (p := ⟨b, o + k * 4 + 3, none⟩) hbw] at x3
          have hbr : b < wr.heap.size := by have := hb.size; omega
          clear hx hxe hk hb hno
          obtain ⟨v, hv⟩ : ∃ v, v = x.of u := ⟨_, rfl⟩
          have HV := Hd.mk hv
          have hzr := HZ4.out.below HB.out HZ4.out.lt
          have HZr := Hd.mk hzr
          have hxn : CnBlk (wr.alloc (.cells #[.int .i64 x.b, .int .i64 x.h, .int .i64 x.r, .int .i64 x.l] 36)) wr.heap.size x := heap_alloc_new wr _
          have HXN := Hd.mk hxn
          have HWW := Hd.mk (show w.heap.size < wr.heap.size from hzr.lt)
          clear hv hzr hxn
          by_cases hh : v = at_
          · have hb1 : (v == at_) = true := by rw [beq_iff_eq]; exact hh
            go_wp2_with (first | (go_at_call 38; refine (refIn_calls x u _).mono ?_; rintro e w7 ⟨rfl, hb7⟩; rw [← HV.out]; have hz7 := (HZr.out.below (ex_alloc (Below.refl _ _) _) HZr.out.lt).below hb7 (by have := HZr.out.lt; simp only [World.size_alloc]; omega); have hx7 := HXN.out.below hb7 (by simp only [World.size_alloc]; omega); have HZ7 := Hd.mk hz7; have HX7 := Hd.mk hx7; obtain ⟨q0, q1, q2, q3⟩ := hx7.cells; obtain ⟨s0, s1, s2, s3⟩ := hz7.cells; have sf := hz7.frozen; have sl := hz7.lt; have hne := HWW.out; have HB7 := Hd.mk (bstep (bstep HB4.out HB.out) (bstep (ex_alloc (Below.refl _ _) _) hb7)); clear hb7 hz7 hx7))
            obtain ⟨f0, f1, f2, f3⟩ := (cn_store HZ7.out x).cells
            refine bodyPost_ret (v := .tuple #[x.v, .int .i64 0]) (by rw [Cn.v_eq]; simp [results, Tryd.results49, go_sem, f0, f1, f2, f3]) rfl ?_
            refine ⟨cn_below HB7.out, x, 0, rfl, fun h => absurd h (by have := HU.out; omega), fun _ h => absurd h (by have := HAT.out; have := HTOT.out; omega), fun _ _ => .inl ⟨rfl, R.take k, R.drop k, by simp, ?_, HX.out⟩⟩
            rw [← HX.out, ← HV.out]; exact hh
          · have hb1 : (v == at_) = false := by rw [beq_eq_false_iff_ne]; exact hh
            go_wp2_with (first | (go_at_call 38; refine (refIn_calls x u _).mono ?_; rintro e w7 ⟨rfl, hb7⟩; rw [← HV.out]; have HB7 := Hd.mk (bstep HB.out (bstep (ex_alloc (Below.refl _ _) _) hb7)); clear hb7))
            go_roundg (R.length + 1 - (k + 1))
            case rel => exact ⟨k + 1, by simp, by omega, HB7.out, fun j hj => by
              by_cases e : j < k
              · exact HNO.out j e
              · obtain rfl : j = k := by omega
                rw [← HX.out, ← HV.out]; exact hh⟩
            case measure => have := HK.out; omega
        · obtain rfl : k = R.length + 1 := by omega
          have hki : ¬ ((R.length : Int) + 1 < (R.length : Int) + 1) := by omega
          have hzr := HZ4.out.below HB.out HZ4.out.lt
          have HZr := Hd.mk hzr
          obtain ⟨s0, s1, s2, s3⟩ := hzr.cells
          have sf := hzr.frozen
          have sl := hzr.lt
          clear hk hb hno hkr hzr
          go_wp2_with fail
          obtain ⟨f0, f1, f2, f3⟩ := cn_store0 HZr.out _ rfl
          refine bodyPost_ret (v := .tuple #[.agg #[.int .i64 0, .int .i64 0, .int .i64 0, .int .i64 0], .int .i64 10]) (by simp [results, Tryd.results49, go_sem, f0, f1, f2, f3]) rfl ?_
          refine ⟨cn_below (bstep HB4.out HB.out), Cn.zero, 10, rfl, fun h => absurd h (by have := HU.out; omega), fun _ h => absurd h (by have := HAT.out; have := HTOT.out; omega), fun _ _ => .inr ⟨rfl, rfl, ?_⟩⟩
          rintro c' ⟨p, q, e1, e2, -⟩
          refine HNO.out p.length ?_ ?_
          · rw [e1, List.length_append]; omega
          · rw [e1, List.take_left]; exact e2
    · have HNA := Hd.mk ha
      clear hR htot ha
      have hz0 : CnBlk (w.alloc (.cells #[.int .i64 0, .int .i64 0, .int .i64 0, .int .i64 0] 36)) w.heap.size Cn.zero := heap_alloc_new w _
      have HZ0 := Hd.mk hz0
      have HU := Hd.mk hu
      clear hz0
      go_enter Tryd.func49, Tryd.ntmps49
      go_wp2_with (first
        | (go_at_call_of 87 (Value.int .i64 u); refine (inT HU.out _).mono ?_; rintro e w3 ⟨rfl, rfl⟩)
        | (go_at_call 18; refine (HC _).out.mono ?_; rintro e w1 ⟨hb1, he, -⟩; obtain rfl := he rfl; have HB1 := Hd.mk (bstep (ex_alloc (Below.refl _ _) _) hb1); have hz1 := HZ0.out.below hb1 HZ0.out.lt; have HZ1 := Hd.mk hz1; clear hb1 he hz1; unfold fltV)
        | (go_at_call 38; refine (refIn_calls (cnt R) u _).mono ?_; rintro e w2 ⟨rfl, hb2⟩; rw [← HTOT.out]; have hz2 := (HZ1.out.below (ex_alloc (ex_alloc (Below.refl _ _) _) _) HZ1.out.lt).below hb2 (by have := HZ1.out.lt; simp only [World.size_alloc]; omega); have HZ2 := Hd.mk hz2; obtain ⟨q0, q1, q2, q3⟩ := hz2.cells; have qf := hz2.frozen; have ql := hz2.lt; have HB2 := Hd.mk (bstep (ex_alloc (ex_alloc HB1.out _) _) hb2); clear hb2 hz2)
        | (go_at_call 87; refine (inF HNA.out _).mono ?_; rintro e w3 ⟨rfl, rfl⟩))
      obtain ⟨f0, f1, f2, f3⟩ := cn_store0 HZ2.out _ rfl
      refine bodyPost_ret (v := .tuple #[.agg #[.int .i64 0, .int .i64 0, .int .i64 0, .int .i64 0], .int .i64 2]) (by simp [results, Tryd.results49, go_sem, f0, f1, f2, f3]) rfl ?_
      exact ⟨cn_below HB2.out, Cn.zero, 2, rfl, fun h => absurd h (by have := HU.out; omega), fun _ _ => ⟨rfl, rfl⟩, fun _ h => absurd (show at_ < 0 ∨ (cnt R).of u < at_ by have := HNA.out; have := HTOT.out; omega) h⟩
  · clear hR
    go_enter Tryd.func49, Tryd.ntmps49
    go_wp2_with (go_at_call 87; refine (inF hu _).mono ?_; rintro e w3 ⟨rfl, rfl⟩)
    refine bodyPost_ret (v := .tuple #[.agg #[.int .i64 0, .int .i64 0, .int .i64 0, .int .i64 0], .int .i64 1]) (by simp [results, Tryd.results49, go_sem]) rfl ?_
    exact ⟨ex_alloc (Below.refl _ _) _, Cn.zero, 1, rfl, ⟨fun _ => ⟨rfl, rfl⟩, fun h => absurd (by omega) h, fun h => absurd (by omega) h⟩⟩
end Go.Proofs.YtgokmldngnmmhaaDoor
