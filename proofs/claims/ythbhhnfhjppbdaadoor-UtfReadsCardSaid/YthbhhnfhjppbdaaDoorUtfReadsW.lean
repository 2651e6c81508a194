/- The walk of the law UtfReads. -/
import Derived.Test.YthbhhnfhjppbdaaDoorRangeB
import Derived.Test.YthbhhnfhjppbdaaDoorRefE
import Derived.Test.YthbhhnfhjppbdaaDoorSameW
import Derived.Test.YthbhhnfhjppbdaaDoorCnEq
import Derived.Test.YthbhhnfhjppbdaaDoorErr
import Derived.Test.YthbhhnfhjppbdaaDoorUtfF
namespace Go.Proofs.YthbhhnfhjppbdaaDoor
open Go.RowKit Go.Shelf
set_option maxRecDepth 100000
theorem cnv_get {l : List Cn} : ∀ {k : Nat} {x : Cn}, l[k]? = some x → (cnv l)[k * 4]? = some (.int .i64 x.b) ∧ (cnv l)[k * 4 + 1]? = some (.int .i64 x.h) ∧ (cnv l)[k * 4 + 2]? = some (.int .i64 x.r) ∧ (cnv l)[k * 4 + 3]? = some (.int .i64 x.l) := by
  induction l with
  | nil => intro k x h; simp at h
  | cons y l ih =>
    intro k x h
    have e : cnv (y :: l) = y.cells ++ cnv l := by simp [cnv]
    cases k with
    | zero =>
      simp only [List.getElem?_cons_zero, Option.some.injEq] at h
      subst h
      rw [e]; exact ⟨rfl, rfl, rfl, rfl⟩
    | succ k =>
      simp only [List.getElem?_cons_succ] at h
      obtain ⟨h0, h1, h2, h3⟩ := ih h
      have g : ∀ j, (cnv (y :: l))[(k + 1) * 4 + j]? = (cnv l)[k * 4 + j]? := fun j => by
        rw [e, List.getElem?_append_right (by simp; omega)]
        congr 1; simp; omega
      exact ⟨(g 0).trans h0, (g 1).trans h1, (g 2).trans h2, (g 3).trans h3⟩
theorem Sl.cn {w : World} {l : List Cn} {v : Value} {n : Nat} (h : Sl w 4 v n (cnv l)) (hn : 0 < n) : ∃ b o c, v = .slice (some ⟨b, o, none⟩) n c ∧ b < w.heap.size ∧
    ∀ k x, l[k]? = some x → w.cell? ⟨b, o + k * 4, none⟩ = some (.int .i64 x.b) ∧ w.cell? ⟨b, o + k * 4 + 1, none⟩ = some (.int .i64 x.h) ∧ w.cell? ⟨b, o + k * 4 + 2, none⟩ = some (.int .i64 x.r) ∧ w.cell? ⟨b, o + k * 4 + 3, none⟩ = some (.int .i64 x.l) := by
  obtain ⟨A, c, rfl, h2, _, _, _, h5⟩ := h
  obtain ⟨ad, rfl, hb, hc⟩ := h5 hn
  obtain ⟨b, o, p⟩ := ad
  have hp : p = none := by
    rw [cnv_length] at h2
    have hl : 0 < l.length := by omega
    have hz := hc 0 (.int .i64 (l[0]'hl).b) (cnv_get (List.getElem?_eq_getElem hl)).1
    have : (⟨b, o, p⟩ : Addr).add 0 = ⟨b, o, p⟩ := by unfold Addr.add; rfl
    rw [this] at hz
    cases p with
    | none => rfl
    | some x => unfold World.cell? at hz; split at hz <;> simp at hz
  subst hp
  refine ⟨b, o, c, rfl, hb, fun k x hx => ?_⟩
  obtain ⟨h0, h1, h2, h3⟩ := cnv_get hx
  have g0 := hc _ _ h0
  have g1 := hc _ _ h1
  have g2 := hc _ _ h2
  have g3 := hc _ _ h3
  have am : ∀ j, (⟨b, o, none⟩ : Addr).add j = ⟨b, o + j, none⟩ := fun j => by cases j <;> rfl
  rw [am] at g0 g1 g2 g3
  exact ⟨g0, g1, g2, g3⟩
theorem Blk.putObj {w : World} {g : Nat} {t : TypeId} {cs : Array Value} (h : Blk w g t cs) {l : Nat} (hne : g ≠ l) (o : Obj) : Blk (w.putObj l o) g t cs := (World.putObj_heap_other hne).trans h
set_option maxHeartbeats 1000000 in
theorem walk_calls (s : U.Bs) (w : World) : Calls Tryd.prog 25 #[.string ⟨s.toArray⟩] w fun e w' => e = .returned (.func (.func 56) #[] #[.pointer (some ⟨w.heap.size, 0, none⟩)]) ∧ w' = w.alloc (.cells #[.string ⟨s.toArray⟩] 9) := by
  go_enter Tryd.func25, Tryd.ntmps25
  go_wp2_with fail
  go_ret
  exact ⟨rfl, rfl⟩
attribute [local go_sem] Oper.semAt_some
set_option maxHeartbeats 8000000 in
theorem utfReads_walk {s : U.Bs} {w : World} (hg : Hdl w) (hsm : s.length ≤ maxLen) :
    Calls Tryd.prog 5 #[.string ⟨s.toArray⟩] w fun e w' => e = .returned (.bool true) ∧ Below w.heap.size w w' := by
  unfold maxLen at hsm
  have HG := Hd.mk hg
  clear hg
  refine (callsIn_wide (n := 6)).1 ?_
  refine callsIn_of_wp_marks Tryd.func5 rfl trivial ?_ rfl
  simp only [Tryd.ntmps5, List.size_toArray, List.length_cons, List.length_nil, Nat.reduceAdd, Nat.reduceSub, Array.replicate_succ, Array.replicate_zero, List.push_toArray, List.append_toArray, List.nil_append, List.cons_append]
  by_cases hs : 600 < s.length
  · gi_wp2_with fail
    have hc := (Blk.new w 4 #[.bool true]).cell 0
    simp only [List.getElem?_toArray, List.getElem?_cons_zero] at hc
    refine ⟨.bool true, by simp [results, Tryd.f5, go_sem, hc], rfl, ex_alloc (Below.refl _ _) _⟩
  · obtain ⟨rs, rest, hsp⟩ := U.sp_exists s
    have HSP := Hd.mk hsp
    clear hsp
    gi_wp2_with fail
    refine ⟨trivial, (callsIn_wide.2 (rrunes_calls HSP.out _ (by omega))).mono ?_⟩
    rintro e w1 ⟨hb1, hok1, hbad1⟩
    have HB1 := Hd.mk (bstep (ex_alloc (Below.refl _ _) _) hb1)
    have HR := Hd.mk ((Blk.new w 4 #[.bool false]).below hb1 (by simp))
    clear hb1
    by_cases hr : rest = []
    · obtain ⟨v1, rfl, hs1⟩ := hok1 hr
      have HS1 := Hd.mk hs1
      obtain ⟨A1, c1, rfl, -⟩ := hs1
      have HRE := Hd.mk hr
      unfold fltV
      have HRL : Hd (rs.length ≤ 600 ∧ U.off rs rs.length = s.length) := ⟨by have h1 := HSP.out.length; have h2 := U.len_le_off rs; rw [hr] at h1; simp at h1; omega⟩
      have HSE : Hd (s = U.encs rs) := ⟨by have := HSP.out.eq; rw [hr, List.append_nil] at this; exact this⟩
      clear hok1 hbad1 hr
      gi_wp2_with fail
      have hx1 : Below w1.heap.size w1 (w1.alloc (.cells #[.int .i64 0, .int .i64 (-1)] 39)) := ex_alloc (Below.refl _ _) _
      have HF1 := Hd.mk (Blk.new w1 39 #[.int .i64 0, .int .i64 (-1)])
      have HBx := Hd.mk (bstep HB1.out hx1)
      have HRx := Hd.mk (HR.out.below hx1 HR.out.lt)
      have HS1x := Hd.mk (HS1.out.below hx1)
      clear hx1
      generalize w1.alloc (.cells #[.int .i64 0, .int .i64 (-1)] 39) = wf at *
      generalize hfb : w1.heap.size = fb at *
      gi_wp2_with fail
      refine ⟨trivial, (callsIn_wide.2 (runes_calls HSP.out _ (by omega))).mono ?_⟩
      rintro e w2 ⟨hb2, hok2, _⟩
      obtain ⟨v2, rfl, hs2⟩ := hok2 HRE.out
      have HB2 := Hd.mk (bstep HBx.out hb2)
      have HR2 := Hd.mk (HRx.out.below hb2 HRx.out.lt)
      have HF2 := Hd.mk (HF1.out.below hb2 HF1.out.lt)
      have HS12 := Hd.mk (HS1x.out.below hb2)
      clear HBx HRx HF1 HS1x
      have HV2 := Hd.mk hs2
      obtain ⟨A2, c2, rfl, -⟩ := hs2
      clear hok2 hb2
      gi_wp2_with fail
      refine ⟨trivial, (callsIn_wide.2 (halves_calls HSP.out _ (by omega))).mono ?_⟩
      rintro e w3 ⟨hb3, hok3, _⟩
      obtain ⟨v3, rfl, hs3⟩ := hok3 HRE.out
      have HB3 := Hd.mk (bstep HB2.out hb3)
      have HR3 := Hd.mk (HR2.out.below hb3 HR2.out.lt)
      have HF3 := Hd.mk (HF2.out.below hb3 HF2.out.lt)
      have HS13 := Hd.mk (HS12.out.below hb3)
      have HV23 := Hd.mk (HV2.out.below hb3)
      clear HB2 HR2 HF2 HS12 HV2
      have HV3 := Hd.mk hs3
      obtain ⟨A3, c3, rfl, -⟩ := hs3
      clear hok3 hb3
      gi_wp2_with fail
      refine ⟨trivial, (callsIn_wide.2 (count_calls HSP.out _ (by omega))).mono ?_⟩
      rintro e w4 ⟨hb4, hok4, _⟩
      obtain rfl := hok4 HRE.out
      have HB4 := Hd.mk (bstep HB3.out hb4)
      have HR4 := Hd.mk (HR3.out.below hb4 HR3.out.lt)
      have HF4 := Hd.mk (HF3.out.below hb4 HF3.out.lt)
      have HS14 := Hd.mk (HS13.out.below hb4)
      have HV24 := Hd.mk (HV23.out.below hb4)
      have HV34 := Hd.mk (HV3.out.below hb4)
      clear HB3 HR3 HF3 HS13 HV23 HV3
      clear hok4 hb4
      gi_wp2_with fail
      have hx4 : Below w4.heap.size w4 (w4.alloc (.cells #[.int .i64 (cnt rs).b, .int .i64 (cnt rs).h, .int .i64 (cnt rs).r, .int .i64 (cnt rs).l] 48)) := ex_alloc (Below.refl _ _) _
      have HE4 : Hd (CnBlk (w4.alloc (.cells #[.int .i64 (cnt rs).b, .int .i64 (cnt rs).h, .int .i64 (cnt rs).r, .int .i64 (cnt rs).l] 48)) w4.heap.size (cnt rs)) := ⟨Blk.new _ _ _⟩
      generalize w4.alloc (.cells #[.int .i64 (cnt rs).b, .int .i64 (cnt rs).h, .int .i64 (cnt rs).r, .int .i64 (cnt rs).l] 48) = wc at *
      have HBc := Hd.mk (bstep HB4.out hx4)
      have HRc := Hd.mk (HR4.out.below hx4 HR4.out.lt)
      have HFc := Hd.mk (HF4.out.below hx4 HF4.out.lt)
      have HS1c := Hd.mk (HS14.out.below hx4)
      have HV2c := Hd.mk (HV24.out.below hx4)
      have HV3c := Hd.mk (HV34.out.below hx4)
      clear HB4 HR4 HF4 HS14 HV24 HV34
      generalize w4.heap.size = cb at *
      clear hx4
      refine ⟨trivial, (callsIn_wide.2 (rcount_calls HSP.out _ (by omega))).mono ?_⟩
      rintro e w5 ⟨hb5, hok5, _⟩
      obtain rfl := hok5 HRE.out
      have HB5 := Hd.mk (bstep HBc.out hb5)
      have HR5 := Hd.mk (HRc.out.below hb5 HRc.out.lt)
      have HF5 := Hd.mk (HFc.out.below hb5 HFc.out.lt)
      have HE5 := Hd.mk (HE4.out.below hb5 HE4.out.lt)
      have HS15 := Hd.mk (HS1c.out.below hb5)
      have HV25 := Hd.mk (HV2c.out.below hb5)
      have HV35 := Hd.mk (HV3c.out.below hb5)
      clear HBc HRc HFc HE4 HS1c HV2c HV3c
      clear hok5 hb5
      unfold fltV
      have fl := HF5.out.lt
      have f0 := HF5.out.cell 0
      have f1 := HF5.out.cell 1
      simp only [List.getElem?_toArray, List.getElem?_cons_zero, List.getElem?_cons_succ] at f0 f1
      gi_wp2_with fail
      have hx5 : Below w5.heap.size w5 ((w5.alloc (.cells #[.int .i64 (cnt rs).b, .int .i64 (cnt rs).h, .int .i64 (cnt rs).r, .int .i64 (cnt rs).l] 48)).alloc (.cells #[.int .i64 0, .int .i64 (-1)] 39)) := ex_alloc (ex_alloc (Below.refl _ _) _) _
      have HN5 : Hd (CnBlk ((w5.alloc (.cells #[.int .i64 (cnt rs).b, .int .i64 (cnt rs).h, .int .i64 (cnt rs).r, .int .i64 (cnt rs).l] 48)).alloc (.cells #[.int .i64 0, .int .i64 (-1)] 39)) w5.heap.size (cnt rs)) := ⟨(Below.heap_alloc _ _ _ (by rw [World.size_alloc]; omega)).trans (Blk.new _ _ _)⟩
      generalize ((w5.alloc (.cells #[.int .i64 (cnt rs).b, .int .i64 (cnt rs).h, .int .i64 (cnt rs).r, .int .i64 (cnt rs).l] 48)).alloc (.cells #[.int .i64 0, .int .i64 (-1)] 39)) = wn at *
      have HBn := Hd.mk (bstep HB5.out hx5)
      have HRn := Hd.mk (HR5.out.below hx5 HR5.out.lt)
      have HFn := Hd.mk (HF5.out.below hx5 HF5.out.lt)
      have HEn := Hd.mk (HE5.out.below hx5 HE5.out.lt)
      have HS1n := Hd.mk (HS15.out.below hx5)
      have HV2n := Hd.mk (HV25.out.below hx5)
      have HV3n := Hd.mk (HV35.out.below hx5)
      clear HB5 HR5 HF5 HE5 HS15 HV25 HV35
      generalize w5.heap.size = nb at *
      clear hx5 f0 f1 fl
      refine ⟨trivial, (callsIn_wide.2 (is_true (ErrV.nil) (HG.out.below HBn.out))).mono ?_⟩
      rintro e w6 ⟨rfl, hb6⟩
      have HB6 := Hd.mk (bstep HBn.out hb6)
      have HR6 := Hd.mk (HRn.out.below hb6 HRn.out.lt)
      have HF6 := Hd.mk (HFn.out.below hb6 HFn.out.lt)
      have HE6 := Hd.mk (HEn.out.below hb6 HEn.out.lt)
      have HN6 := Hd.mk (HN5.out.below hb6 HN5.out.lt)
      have HS16 := Hd.mk (HS1n.out.below hb6)
      have HV26 := Hd.mk (HV2n.out.below hb6)
      have HV36 := Hd.mk (HV3n.out.below hb6)
      clear HBn HRn HFn HEn HN5 HS1n HV2n HV3n
      have fl := HF6.out.lt
      have f0 := HF6.out.cell 0
      have f1 := HF6.out.cell 1
      simp only [List.getElem?_toArray, List.getElem?_cons_zero, List.getElem?_cons_succ] at f0 f1
      clear hb6
      gi_wp2_with fail
      clear f0 f1 fl
      refine ⟨trivial, (callsIn_wide.2 (is_true (ErrV.nil) (HG.out.below HB6.out))).mono ?_⟩
      rintro e w7 ⟨rfl, hb7⟩
      have HB7 := Hd.mk (bstep HB6.out hb7)
      have HR7 := Hd.mk (HR6.out.below hb7 HR6.out.lt)
      have HF7 := Hd.mk (HF6.out.below hb7 HF6.out.lt)
      have HE7 := Hd.mk (HE6.out.below hb7 HE6.out.lt)
      have HN7 := Hd.mk (HN6.out.below hb7 HN6.out.lt)
      have HS17 := Hd.mk (HS16.out.below hb7)
      have HV27 := Hd.mk (HV26.out.below hb7)
      have HV37 := Hd.mk (HV36.out.below hb7)
      clear HB6 HR6 HF6 HE6 HN6 HS16 HV26 HV36
      have fl := HF7.out.lt
      have f0 := HF7.out.cell 0
      have f1 := HF7.out.cell 1
      simp only [List.getElem?_toArray, List.getElem?_cons_zero, List.getElem?_cons_succ] at f0 f1
      clear hb7
      gi_wp2_with fail
      clear f0 f1 fl
      refine ⟨trivial, (callsIn_wide.2 (is_true (ErrV.nil) (HG.out.below HB7.out))).mono ?_⟩
      rintro e w8 ⟨rfl, hb8⟩
      have HB8 := Hd.mk (bstep HB7.out hb8)
      have HR8 := Hd.mk (HR7.out.below hb8 HR7.out.lt)
      have HF8 := Hd.mk (HF7.out.below hb8 HF7.out.lt)
      have HE8 := Hd.mk (HE7.out.below hb8 HE7.out.lt)
      have HN8 := Hd.mk (HN7.out.below hb8 HN7.out.lt)
      have HS18 := Hd.mk (HS17.out.below hb8)
      have HV28 := Hd.mk (HV27.out.below hb8)
      have HV38 := Hd.mk (HV37.out.below hb8)
      clear HB7 HR7 HF7 HE7 HN7 HS17 HV27 HV37
      have fl := HF8.out.lt
      have f0 := HF8.out.cell 0
      have f1 := HF8.out.cell 1
      simp only [List.getElem?_toArray, List.getElem?_cons_zero, List.getElem?_cons_succ] at f0 f1
      clear hb8
      gi_wp2_with fail
      clear f0 f1 fl
      refine ⟨trivial, (callsIn_wide.2 (sameR_calls HV28.out HS18.out rfl)).mono ?_⟩
      rintro e w9 ⟨rfl, hb9⟩
      have HB9 := Hd.mk (bstep HB8.out hb9)
      have HR9 := Hd.mk (HR8.out.below hb9 HR8.out.lt)
      have HF9 := Hd.mk (HF8.out.below hb9 HF8.out.lt)
      have HE9 := Hd.mk (HE8.out.below hb9 HE8.out.lt)
      have HN9 := Hd.mk (HN8.out.below hb9 HN8.out.lt)
      have HS19 := Hd.mk (HS18.out.below hb9)
      have HV29 := Hd.mk (HV28.out.below hb9)
      have HV39 := Hd.mk (HV38.out.below hb9)
      clear HB8 HR8 HF8 HE8 HN8 HS18 HV28 HV38
      clear hb9
      obtain ⟨ce0, ce1, ce2, ce3⟩ := HE9.out.cells
      obtain ⟨cn0, cn1, cn2, cn3⟩ := HN9.out.cells
      have cf0 := HF9.out.cell 0
      have cf1 := HF9.out.cell 1
      have cl1 := HE9.out.lt
      have cl2 := HN9.out.lt
      have cl3 := HF9.out.lt
      have cr0 := HR9.out.cell 0
      have cr1 := HR9.out.frozen 0
      have cl4 := HR9.out.lt
      simp only [List.getElem?_toArray, List.getElem?_cons_zero, List.getElem?_cons_succ] at cf0 cf1 cr0
      have hq : ∀ w, (binOp .neq 48 (.agg #[.int .i64 (cnt rs).b, .int .i64 (cnt rs).h, .int .i64 (cnt rs).r, .int .i64 (cnt rs).l]) (.agg #[.int .i64 (cnt rs).b, .int .i64 (cnt rs).h, .int .i64 (cnt rs).r, .int .i64 (cnt rs).l])).run Tryd.prog w = .ok (.bool false) w := fun w => by
        have h := cn_neq (cnt rs) (cnt rs) w
        rw [Cn.beq_self] at h
        exact h
      have hqg := fun (op : BinOp) (p q : Operand) (xs ys : Array Value) (w : World) => cn_eqGuard op p q xs ys w
      gi_wp2_with fail
      clear ce0 ce1 ce2 ce3 cn0 cn1 cn2 cn3 cf0 cf1 cl1 cl2 cl3 cl4 cr0 cr1
      refine ⟨trivial, (callsIn_wide.2 (rhalves_calls HSP.out.all HS19.out (by have := HRL.out; omega))).mono ?_⟩
      rintro e w10 ⟨⟨v10, rfl, hs10⟩, hb10⟩
      have HB10 := Hd.mk (bstep HB9.out hb10)
      have HR10 := Hd.mk (HR9.out.below hb10 HR9.out.lt)
      have HF10 := Hd.mk (HF9.out.below hb10 HF9.out.lt)
      have HE10 := Hd.mk (HE9.out.below hb10 HE9.out.lt)
      have HN10 := Hd.mk (HN9.out.below hb10 HN9.out.lt)
      have HS1z := Hd.mk (HS19.out.below hb10)
      have HV2z := Hd.mk (HV29.out.below hb10)
      have HV3z := Hd.mk (HV39.out.below hb10)
      clear HB9 HR9 HF9 HE9 HN9 HS19 HV29 HV39
      have HV10 := Hd.mk hs10
      obtain ⟨A10, c10, rfl, -⟩ := hs10
      clear hb10
      obtain ⟨ce0, ce1, ce2, ce3⟩ := HE10.out.cells
      obtain ⟨cn0, cn1, cn2, cn3⟩ := HN10.out.cells
      have cf0 := HF10.out.cell 0
      have cf1 := HF10.out.cell 1
      have cl1 := HE10.out.lt
      have cl2 := HN10.out.lt
      have cl3 := HF10.out.lt
      have cr0 := HR10.out.cell 0
      have cr1 := HR10.out.frozen 0
      have cl4 := HR10.out.lt
      simp only [List.getElem?_toArray, List.getElem?_cons_zero, List.getElem?_cons_succ] at cf0 cf1 cr0
      gi_wp2_with fail
      clear ce0 ce1 ce2 ce3 cn0 cn1 cn2 cn3 cf0 cf1 cl1 cl2 cl3 cl4 cr0 cr1
      refine ⟨trivial, (callsIn_wide.2 (sameH_calls HV3z.out HV10.out rfl)).mono ?_⟩
      rintro e w11 ⟨rfl, hb11⟩
      have HB11 := Hd.mk (bstep HB10.out hb11)
      have HR11 := Hd.mk (HR10.out.below hb11 HR10.out.lt)
      have HF11 := Hd.mk (HF10.out.below hb11 HF10.out.lt)
      have HE11 := Hd.mk (HE10.out.below hb11 HE10.out.lt)
      have HN11 := Hd.mk (HN10.out.below hb11 HN10.out.lt)
      clear HR10 HF10 HE10 HN10
      clear hb11 HS1z HV2z HV3z HV10
      obtain ⟨ce0, ce1, ce2, ce3⟩ := HE11.out.cells
      obtain ⟨cn0, cn1, cn2, cn3⟩ := HN11.out.cells
      have cf0 := HF11.out.cell 0
      have cf1 := HF11.out.cell 1
      have cl1 := HE11.out.lt
      have cl2 := HN11.out.lt
      have cl3 := HF11.out.lt
      have cr0 := HR11.out.cell 0
      have cr1 := HR11.out.frozen 0
      have cl4 := HR11.out.lt
      simp only [List.getElem?_toArray, List.getElem?_cons_zero, List.getElem?_cons_succ] at cf0 cf1 cr0
      gi_wp2_with fail
      clear ce0 ce1 ce2 ce3 cn0 cn1 cn2 cn3 cf0 cf1 cl1 cl2 cl3 cl4 cr0 cr1
      rw [show (ByteArray.mk s.toArray).extract 0 s.length = ⟨s.toArray⟩ from by rw [ext_take (Nat.le_refl _), List.take_length]]
      refine ⟨trivial, (callsIn_wide.2 (redges_calls HSP.out.all HSE.out (by omega))).mono ?_⟩
      rintro e w12 ⟨⟨v12, rfl, hs12⟩, hb12⟩
      have HB12 := Hd.mk (bstep HB11.out hb12)
      have HR12 := Hd.mk (HR11.out.below hb12 HR11.out.lt)
      clear HR11
      have HV12 := Hd.mk hs12
      obtain ⟨A12, c12, rfl, -⟩ := hs12
      clear hb12 HF11 HE11 HN11
      gi_wp2_with fail
      refine ⟨trivial, (callsIn_wide.2 (walk_calls s _)).mono ?_⟩
      rintro e w13 ⟨rfl, rfl⟩
      gi_wp2_with fail
      obtain ⟨eb, eo, ec, hv12, heb, hec⟩ := HV12.out.cn (by omega)
      injection hv12 with hv12a _ hv12c
      subst hv12a hv12c
      have hEB : Blk (((w12.alloc (.cells #[.slice (some ⟨eb, eo, none⟩) (rs.length + 1) c12] 57)).alloc (.cells #[.int .i64 0] 3)).alloc (.cells #[.string ⟨s.toArray⟩] 9)) w12.heap.size 57 #[.slice (some ⟨eb, eo, none⟩) (rs.length + 1) c12] := ((Blk.new _ _ _).alloc _).alloc _
      have hIB : Blk (((w12.alloc (.cells #[.slice (some ⟨eb, eo, none⟩) (rs.length + 1) c12] 57)).alloc (.cells #[.int .i64 0] 3)).alloc (.cells #[.string ⟨s.toArray⟩] 9)) (w12.heap.size + 1) 3 #[.int .i64 0] := by
        have h := Blk.new (w12.alloc (.cells #[.slice (some ⟨eb, eo, none⟩) (rs.length + 1) c12] 57)) 3 #[.int .i64 0]
        rw [World.size_alloc] at h; exact h.alloc _
      have hSB : Blk (((w12.alloc (.cells #[.slice (some ⟨eb, eo, none⟩) (rs.length + 1) c12] 57)).alloc (.cells #[.int .i64 0] 3)).alloc (.cells #[.string ⟨s.toArray⟩] 9)) (w12.heap.size + 2) 9 #[.string ⟨s.toArray⟩] := by
        have h := Blk.new ((w12.alloc (.cells #[.slice (some ⟨eb, eo, none⟩) (rs.length + 1) c12] 57)).alloc (.cells #[.int .i64 0] 3)) 9 #[.string ⟨s.toArray⟩]
        rw [World.size_alloc, World.size_alloc] at h; exact h
      have hBZ : Below w12.heap.size w12 (((w12.alloc (.cells #[.slice (some ⟨eb, eo, none⟩) (rs.length + 1) c12] 57)).alloc (.cells #[.int .i64 0] 3)).alloc (.cells #[.string ⟨s.toArray⟩] 9)) := ex_alloc (ex_alloc (ex_alloc (Below.refl _ _) _) _) _
      generalize (((w12.alloc (.cells #[.slice (some ⟨eb, eo, none⟩) (rs.length + 1) c12] 57)).alloc (.cells #[.int .i64 0] 3)).alloc (.cells #[.string ⟨s.toArray⟩] 9)) = wz at *
      have hzl := hSB.lt
      have HEC := Hd.mk hec
      have HSB := Hd.mk hSB
      have HR12l := HR12.out.lt
      generalize hz : w12.heap.size = z at *
      refine range_b (gf := 56) (lb := #[.pointer (some ⟨z + 2, 0, none⟩)]) (xs := fun k => #[(cnt (rs.take k)).v, (oneC (rs[k]?.getD 0) (U.wid (rs[k]?.getD 0))).v]) (N := rs.length) (iB := z + 1) rfl (enters_of Tryd.func56 (by kernel_rfl) rfl) (by omega)
        (fun l J Jx W hb hJ hY h0 => walk1_in 5 l (z + 2) (z + 1) HSP.out (by omega) J Jx W (by omega) (HSB.out.below hb HSB.out.lt) (by have := hb.size; omega) (by omega) hJ (fun k A hk hj => by have := hY k A hk hj; simpa [hk] using this) h0)
        (fun _ => rfl) (fun k W => Below z w12 W ∧ Blk W z 57 #[.slice (some ⟨eb, eo, none⟩) (rs.length + 1) c12] ∧ Blk W (z + 1) 3 #[.int .i64 k])
        (fun k A B h hb => ⟨h.1.trans (hb.mono (by omega)), h.2.1.below hb (by omega), h.2.2.below hb (by omega)⟩) ⟨hBZ, hEB, hIB⟩ ?round ?done
      case round =>
        rintro l k W hk ⟨hbW, hEW, hIW⟩ hlt
        gi_wp2_with fail
        refine ⟨ex_alloc (ex_alloc (Below.refl _ _) _) _, fun o => ?_⟩
        have HCS : Hd (cnt (rs.take (k + 1)) = (cnt (rs.take k)).add (oneC rs[k] (U.wid rs[k]))) := ⟨by rw [List.take_succ_eq_append_getElem hk, cnt_snoc]⟩
        have HCI : Hd ((cnt (rs.take k)).In 2305843009213693952) := ⟨by
          obtain ⟨⟨b0, b1, h0, h1, r0, r1, l0, l1⟩, _, _⟩ := cnt_in (rs.take k)
          have := HRL.out
          rw [List.length_take] at b1 h1 r1 l1
          exact ⟨b0, by omega, h0, by omega, r0, by omega, l0, by omega⟩⟩
        have HOI : Hd ((oneC rs[k] (U.wid rs[k])).In 2305843009213693952) := ⟨by
          obtain ⟨b0, b1, h0, h1, r0, r1, l0, l1⟩ := oneC_in rs[k]
          exact ⟨b0, by omega, h0, by omega, r0, by omega, l0, by omega⟩⟩
        have he0 := HEC.out k _ (edgs_at rs (by omega))
        have he1 := HEC.out (k + 1) _ (edgs_at rs (by omega))
        rw [HCS.out] at he1
        have hkr : k < 600 := by have := HRL.out; omega
        generalize cnt (rs.take k) = cx at *
        generalize oneC rs[k] (U.wid rs[k]) = ox at *
        have hA : CnBlk (((W.alloc (.cells #[.int .i64 cx.b, .int .i64 cx.h, .int .i64 cx.r, .int .i64 cx.l] 48)).alloc (.cells #[.int .i64 ox.b, .int .i64 ox.h, .int .i64 ox.r, .int .i64 ox.l] 48)).putObj (wz.heap.size + 1) o) W.heap.size cx := Blk.putObj ((Blk.new _ _ _).alloc _) (by omega) o
        have hO : CnBlk (((W.alloc (.cells #[.int .i64 cx.b, .int .i64 cx.h, .int .i64 cx.r, .int .i64 cx.l] 48)).alloc (.cells #[.int .i64 ox.b, .int .i64 ox.h, .int .i64 ox.r, .int .i64 ox.l] 48)).putObj (wz.heap.size + 1) o) (W.heap.size + 1) ox := Blk.putObj (by
          have h := Blk.new (W.alloc (.cells #[.int .i64 cx.b, .int .i64 cx.h, .int .i64 cx.r, .int .i64 cx.l] 48)) 48 #[.int .i64 ox.b, .int .i64 ox.h, .int .i64 ox.r, .int .i64 ox.l]
          rw [World.size_alloc] at h; exact h) (by omega) o
        have hE := ((hEW.alloc (.cells #[.int .i64 cx.b, .int .i64 cx.h, .int .i64 cx.r, .int .i64 cx.l] 48)).alloc (.cells #[.int .i64 ox.b, .int .i64 ox.h, .int .i64 ox.r, .int .i64 ox.l] 48)).putObj (l := wz.heap.size + 1) (by omega) o
        have hI := ((hIW.alloc (.cells #[.int .i64 cx.b, .int .i64 cx.h, .int .i64 cx.r, .int .i64 cx.l] 48)).alloc (.cells #[.int .i64 ox.b, .int .i64 ox.h, .int .i64 ox.r, .int .i64 ox.l] 48)).putObj (l := wz.heap.size + 1) (by omega) o
        have hB : Below z w12 (((W.alloc (.cells #[.int .i64 cx.b, .int .i64 cx.h, .int .i64 cx.r, .int .i64 cx.l] 48)).alloc (.cells #[.int .i64 ox.b, .int .i64 ox.h, .int .i64 ox.r, .int .i64 ox.l] 48)).putObj (wz.heap.size + 1) o) := hbW.trans (((ex_alloc (ex_alloc (Below.refl W.heap.size W) _) _).mono (by omega)).trans (putObj_below _ _ _ (by omega)))
        generalize (((W.alloc (.cells #[.int .i64 cx.b, .int .i64 cx.h, .int .i64 cx.r, .int .i64 cx.l] 48)).alloc (.cells #[.int .i64 ox.b, .int .i64 ox.h, .int .i64 ox.r, .int .i64 ox.l] 48)).putObj (wz.heap.size + 1) o) = wq at *
        generalize W.heap.size = q at *
        clear hEW hIW hbW
        have HA := Hd.mk hA
        have HO := Hd.mk hO
        have HE := Hd.mk hE
        have HI := Hd.mk hI
        have HB := Hd.mk hB
        obtain ⟨a0, a1, a2, a3⟩ := hA.cells
        obtain ⟨o0, o1, o2, o3⟩ := hO.cells
        have e0 := hE.cell 0
        have i0 := hI.cell 0
        have hiz := hI.frozen 0
        have hil := hI.lt
        simp only [List.getElem?_toArray, List.getElem?_cons_zero] at e0 i0
        have heb' : eb < z := by omega
        have g0 := (hB.cell (p := ⟨eb, eo + k * 4, none⟩) heb').trans he0.1
        have g1 := (hB.cell (p := ⟨eb, eo + k * 4 + 1, none⟩) heb').trans he0.2.1
        have g2 := (hB.cell (p := ⟨eb, eo + k * 4 + 2, none⟩) heb').trans he0.2.2.1
        have g3 := (hB.cell (p := ⟨eb, eo + k * 4 + 3, none⟩) heb').trans he0.2.2.2
        have f0 := (hB.cell (p := ⟨eb, eo + (k + 1) * 4, none⟩) heb').trans he1.1
        have f1 := (hB.cell (p := ⟨eb, eo + (k + 1) * 4 + 1, none⟩) heb').trans he1.2.1
        have f2 := (hB.cell (p := ⟨eb, eo + (k + 1) * 4 + 2, none⟩) heb').trans he1.2.2.1
        have f3 := (hB.cell (p := ⟨eb, eo + (k + 1) * 4 + 3, none⟩) heb').trans he1.2.2.2
        clear hA hO hE hI hB he0 he1
        have hqx : ∀ w, (binOp .neq 48 (.agg #[.int .i64 cx.b, .int .i64 cx.h, .int .i64 cx.r, .int .i64 cx.l]) (.agg #[.int .i64 cx.b, .int .i64 cx.h, .int .i64 cx.r, .int .i64 cx.l])).run Tryd.prog w = .ok (.bool false) w := fun w => by
          have h := cn_neq cx cx w
          rw [Cn.beq_self] at h
          exact h
        have hqy : ∀ w, (binOp .neq 48 (.agg #[.int .i64 (cx.add ox).b, .int .i64 (cx.add ox).h, .int .i64 (cx.add ox).r, .int .i64 (cx.add ox).l]) (.agg #[.int .i64 (cx.add ox).b, .int .i64 (cx.add ox).h, .int .i64 (cx.add ox).r, .int .i64 (cx.add ox).l])).run Tryd.prog w = .ok (.bool false) w := fun w => by
          have h := cn_neq (cx.add ox) (cx.add ox) w
          rw [Cn.beq_self] at h
          exact h
        have hqg := fun (op : BinOp) (p q : Operand) (xs ys : Array Value) (w : World) => cn_eqGuard op p q xs ys w
        have hwk : IntKind.i64.wrap ((k : Int) + 1) = ((k + 1 : Nat) : Int) := by rw [IntKind.wrap_i64] <;> omega
        have hge : ¬ (((rs.length + 1 : Nat) : Int) ≤ ((k + 1 : Nat) : Int)) := by omega
        gi_wp2_with fail
        have ka0 := cell_regrown a0
        have ka1 := cell_regrown a1
        have ka2 := cell_regrown a2
        have ka3 := cell_regrown a3
        have ko0 := cell_regrown o0
        have ko1 := cell_regrown o1
        have ko2 := cell_regrown o2
        have ko3 := cell_regrown o3
        have ke0 := cell_regrown e0
        have ki0 := cell_regrown i0
        have kg0 := cell_regrown g0
        have kg1 := cell_regrown g1
        have kg2 := cell_regrown g2
        have kg3 := cell_regrown g3
        have kf0 := cell_regrown f0
        have kf1 := cell_regrown f1
        have kf2 := cell_regrown f2
        have kf3 := cell_regrown f3
        have hcp : ∀ d os, CallsIn Fence.wide 3 Tryd.prog 26 #[cx.v, ox.v] (Go.Sort.grow (redrawn wq d) os) fun e w'' => e = .returned (cx.add ox).v ∧ ∃ p : Regrown, w'' = Go.Sort.grow (redrawn wq p.d) p.os := fun d os => CallsIn.regrown_of (callsIn_wide.2 (plus_calls cx ox _ HCI.out HOI.out))
        have hb1 : (k : Int) < (rs.length : Int) + 1 := by omega
        have hb2 : (k : Int) < (rs.length : Int) := by omega
        have hb3 : (0 : Int) ≤ (k : Int) + 1 := by omega
        refine round_quiet_below (by kernel_rfl) (by kernel_rfl) (by kernel_rfl) ?_
        repeat (refine wpQuietIn_step (fun _ _ _ _ => trivial) (fun K hK => ?_); go_simp; first | (refine hK _ ?_; clear hK K) | (apply Exists.intro; refine ⟨fun _ => ?_, hK _ ?_⟩; (first | exact ⟨fun h => absurd h (by decide), hcp _ _⟩ | exact hcp _ _ | exact ⟨rfl, fun h => absurd h (by decide), hcp _ _⟩); clear hK K))
        refine wpQuietIn_nil ?_
        intro _ hw'
        obtain ⟨⟨dq, osq⟩, hw''⟩ := hw'
        subst hw''
        have hbg := below_regrown wq dq osq
        have hI1 := HI.out.below hbg HI.out.lt
        have hE1 := HE.out.below hbg HE.out.lt
        have hB1 := HB.out.trans (hbg.mono (by omega))
        have hi1 := hI1.cell 0
        have hi2 := hI1.frozen 0
        simp only [List.getElem?_toArray, List.getElem?_cons_zero] at hi1
        clear ka0 ka1 ka2 ka3 ko0 ko1 ko2 ko3 ke0 ki0 kg0 kg1 kg2 kg3 kf0 kf1 kf2 kf3 hcp a0 a1 a2 a3 o0 o1 o2 o3 e0 i0 g0 g1 g2 g3 f0 f1 f2 f3 hiz
        gi_wp2_with fail
        refine ⟨rfl, ⟨hB1.setCell (p := ⟨z + 1, 0, none⟩) (by show z ≤ z + 1; omega) _, hE1.far (by show z ≠ z + 1; omega) _, ?_⟩, ?_, ?_⟩
        · have h := hI1.set_ 0 (.int .i64 ((k : Int) + 1))
          simpa using h
        · rw [World.size_setCell]; exact hbg.size
        · intro b hb hne
          rw [Below.heap_setCell _ _ _ _ hne]
          exact hbg.block b hb
      case done =>
        rintro W ⟨hbW, hEW, hIW⟩ hD
        have hRW := HR12.out.below hbW (by omega)
        have hb0 := (HB12.out).trans (hbW.mono (by omega))
        have e0 := hEW.cell 0
        have i0 := hIW.cell 0
        have r0 := hRW.cell 0
        have rf := hRW.frozen 0
        have rl := hRW.lt
        have HRW := Hd.mk hRW
        have HBW := Hd.mk hb0
        have HDW := Hd.mk hD
        simp only [List.getElem?_toArray, List.getElem?_cons_zero] at e0 i0 r0
        have hr6 : rs.length ≤ 600 := HRL.out.1
        clear hbW hEW hIW hRW hb0 hD
        gi_wp2_with fail
        have hne : wz.heap.size ≠ w.heap.size := by omega
        have hK' : (W.setCell ⟨w.heap.size, 0, none⟩ (.bool true)).heap[wz.heap.size]? = some (.deferred (some [])) := (Below.heap_setCell _ _ _ _ hne).trans HDW.out
        have hF := (HRW.out.set_ 0 (.bool true)).putObj (Ne.symm hne) (.deferred none)
        have hc5 := hF.cell 0
        simp only [List.setIfInBounds_toArray, List.set_cons_zero, List.getElem?_toArray, List.getElem?_cons_zero] at hc5
        refine ⟨by simp, .inl ⟨_, _, rfl, run_takeDeferred hK', ?_⟩⟩
        exact ⟨.bool true, by simp [results, Tryd.f5, go_sem, hc5], rfl, (HBW.out.setCell (p := ⟨w.heap.size, 0, none⟩) (Nat.le_refl _) _).trans (putObj_below _ _ _ (by omega))⟩
    · skip
      have HNE := Hd.mk hr
      obtain rfl := hbad1 hr
      unfold fltV
      have HRL : Hd (rs.length ≤ 600 ∧ U.off rs rs.length ≤ s.length) := ⟨by have h1 := HSP.out.length; have h2 := U.len_le_off rs; omega⟩
      have HSE : Hd (s.take (U.off rs rs.length) = U.encs rs) := ⟨by rw [HSP.out.eq, U.off_full, List.take_left]⟩
      obtain ⟨zz, hzz⟩ : ∃ z, z = Cn.zero := ⟨_, rfl⟩
      have HZ := Hd.mk hzz
      clear hok1 hbad1 hr hzz
      gi_wp2_with fail
      have hx1 : Below w1.heap.size w1 (w1.alloc (.cells #[.int .i64 3, .int .i64 (U.off rs rs.length)] 39)) := ex_alloc (Below.refl _ _) _
      have HF1 := Hd.mk (Blk.new w1 39 #[.int .i64 3, .int .i64 (U.off rs rs.length)])
      have HBx := Hd.mk (bstep HB1.out hx1)
      have HRx := Hd.mk (HR.out.below hx1 HR.out.lt)
      clear hx1
      generalize w1.alloc (.cells #[.int .i64 3, .int .i64 (U.off rs rs.length)] 39) = wf at *
      generalize hfb : w1.heap.size = fb at *
      gi_wp2_with fail
      refine ⟨trivial, (callsIn_wide.2 (runes_calls HSP.out _ (by omega))).mono ?_⟩
      rintro e w2 ⟨hb2, _, hok2⟩
      obtain ⟨g2, rfl, hs2⟩ := hok2 HNE.out
      have HB2 := Hd.mk (bstep HBx.out hb2)
      have HR2 := Hd.mk (HRx.out.below hb2 HRx.out.lt)
      have HF2 := Hd.mk (HF1.out.below hb2 HF1.out.lt)
      clear HBx HRx HF1
      have HV2 := Hd.mk hs2
      clear hok2 hb2 hs2
      gi_wp2_with fail
      refine ⟨trivial, (callsIn_wide.2 (halves_calls HSP.out _ (by omega))).mono ?_⟩
      rintro e w3 ⟨hb3, _, hok3⟩
      obtain ⟨g3, rfl, hs3⟩ := hok3 HNE.out
      have HB3 := Hd.mk (bstep HB2.out hb3)
      have HR3 := Hd.mk (HR2.out.below hb3 HR2.out.lt)
      have HF3 := Hd.mk (HF2.out.below hb3 HF2.out.lt)
      have HV23 := Hd.mk (HV2.out.below hb3)
      clear HB2 HR2 HF2 HV2
      have HV3 := Hd.mk hs3
      clear hok3 hb3 hs3
      gi_wp2_with fail
      refine ⟨trivial, (callsIn_wide.2 (count_calls HSP.out _ (by omega))).mono ?_⟩
      rintro e w4 ⟨hb4, _, hok4⟩
      obtain ⟨g4, he4, hs4⟩ := hok4 HNE.out
      rw [← HZ.out] at he4
      subst he4
      have HB4 := Hd.mk (bstep HB3.out hb4)
      have HR4 := Hd.mk (HR3.out.below hb4 HR3.out.lt)
      have HF4 := Hd.mk (HF3.out.below hb4 HF3.out.lt)
      have HV24 := Hd.mk (HV23.out.below hb4)
      have HV34 := Hd.mk (HV3.out.below hb4)
      clear HB3 HR3 HF3 HV23 HV3
      have HV4 := Hd.mk hs4
      clear hok4 hb4 hs4
      gi_wp2_with fail
      have hx4 : Below w4.heap.size w4 (w4.alloc (.cells #[.int .i64 zz.b, .int .i64 zz.h, .int .i64 zz.r, .int .i64 zz.l] 48)) := ex_alloc (Below.refl _ _) _
      have HE4 : Hd (CnBlk (w4.alloc (.cells #[.int .i64 zz.b, .int .i64 zz.h, .int .i64 zz.r, .int .i64 zz.l] 48)) w4.heap.size zz) := ⟨Blk.new _ _ _⟩
      generalize w4.alloc (.cells #[.int .i64 zz.b, .int .i64 zz.h, .int .i64 zz.r, .int .i64 zz.l] 48) = wc at *
      have HBc := Hd.mk (bstep HB4.out hx4)
      have HRc := Hd.mk (HR4.out.below hx4 HR4.out.lt)
      have HFc := Hd.mk (HF4.out.below hx4 HF4.out.lt)
      have HV2c := Hd.mk (HV24.out.below hx4)
      have HV3c := Hd.mk (HV34.out.below hx4)
      have HV4c := Hd.mk (HV4.out.below hx4)
      clear HB4 HR4 HF4 HV24 HV34 HV4
      generalize w4.heap.size = cb at *
      clear hx4
      refine ⟨trivial, (callsIn_wide.2 (rcount_calls HSP.out _ (by omega))).mono ?_⟩
      rintro e w5 ⟨hb5, _, hok5⟩
      have he5 := hok5 HNE.out
      rw [← HZ.out] at he5
      subst he5
      have HB5 := Hd.mk (bstep HBc.out hb5)
      have HR5 := Hd.mk (HRc.out.below hb5 HRc.out.lt)
      have HF5 := Hd.mk (HFc.out.below hb5 HFc.out.lt)
      have HE5 := Hd.mk (HE4.out.below hb5 HE4.out.lt)
      have HV25 := Hd.mk (HV2c.out.below hb5)
      have HV35 := Hd.mk (HV3c.out.below hb5)
      have HV45 := Hd.mk (HV4c.out.below hb5)
      clear HBc HRc HFc HE4 HV2c HV3c HV4c
      clear hok5 hb5
      unfold fltV
      have fl := HF5.out.lt
      have f0 := HF5.out.cell 0
      have f1 := HF5.out.cell 1
      simp only [List.getElem?_toArray, List.getElem?_cons_zero, List.getElem?_cons_succ] at f0 f1
      gi_wp2_with fail
      have hx5 : Below w5.heap.size w5 ((w5.alloc (.cells #[.int .i64 zz.b, .int .i64 zz.h, .int .i64 zz.r, .int .i64 zz.l] 48)).alloc (.cells #[.int .i64 3, .int .i64 (U.off rs rs.length)] 39)) := ex_alloc (ex_alloc (Below.refl _ _) _) _
      have HN5 : Hd (CnBlk ((w5.alloc (.cells #[.int .i64 zz.b, .int .i64 zz.h, .int .i64 zz.r, .int .i64 zz.l] 48)).alloc (.cells #[.int .i64 3, .int .i64 (U.off rs rs.length)] 39)) w5.heap.size zz) := ⟨(Below.heap_alloc _ _ _ (by rw [World.size_alloc]; omega)).trans (Blk.new _ _ _)⟩
      generalize ((w5.alloc (.cells #[.int .i64 zz.b, .int .i64 zz.h, .int .i64 zz.r, .int .i64 zz.l] 48)).alloc (.cells #[.int .i64 3, .int .i64 (U.off rs rs.length)] 39)) = wn at *
      have HBn := Hd.mk (bstep HB5.out hx5)
      have HRn := Hd.mk (HR5.out.below hx5 HR5.out.lt)
      have HFn := Hd.mk (HF5.out.below hx5 HF5.out.lt)
      have HEn := Hd.mk (HE5.out.below hx5 HE5.out.lt)
      have HV2n := Hd.mk (HV25.out.below hx5)
      have HV3n := Hd.mk (HV35.out.below hx5)
      have HV4n := Hd.mk (HV45.out.below hx5)
      clear HB5 HR5 HF5 HE5 HV25 HV35 HV45
      generalize w5.heap.size = nb at *
      clear hx5 f0 f1 fl
      refine ⟨trivial, (callsIn_wide.2 (is_true (ErrV.at_ _ _ _ HV2n.out) (HG.out.below HBn.out))).mono ?_⟩
      rintro e w6 ⟨rfl, hb6⟩
      have HB6 := Hd.mk (bstep HBn.out hb6)
      have HR6 := Hd.mk (HRn.out.below hb6 HRn.out.lt)
      have HF6 := Hd.mk (HFn.out.below hb6 HFn.out.lt)
      have HE6 := Hd.mk (HEn.out.below hb6 HEn.out.lt)
      have HN6 := Hd.mk (HN5.out.below hb6 HN5.out.lt)
      have HV26 := Hd.mk (HV2n.out.below hb6)
      have HV36 := Hd.mk (HV3n.out.below hb6)
      have HV46 := Hd.mk (HV4n.out.below hb6)
      clear HBn HRn HFn HEn HN5 HV2n HV3n HV4n
      have fl := HF6.out.lt
      have f0 := HF6.out.cell 0
      have f1 := HF6.out.cell 1
      simp only [List.getElem?_toArray, List.getElem?_cons_zero, List.getElem?_cons_succ] at f0 f1
      clear hb6
      gi_wp2_with fail
      clear f0 f1 fl
      refine ⟨trivial, (callsIn_wide.2 (is_true (ErrV.at_ _ _ _ HV36.out) (HG.out.below HB6.out))).mono ?_⟩
      rintro e w7 ⟨rfl, hb7⟩
      have HB7 := Hd.mk (bstep HB6.out hb7)
      have HR7 := Hd.mk (HR6.out.below hb7 HR6.out.lt)
      have HF7 := Hd.mk (HF6.out.below hb7 HF6.out.lt)
      have HE7 := Hd.mk (HE6.out.below hb7 HE6.out.lt)
      have HN7 := Hd.mk (HN6.out.below hb7 HN6.out.lt)
      have HV27 := Hd.mk (HV26.out.below hb7)
      have HV37 := Hd.mk (HV36.out.below hb7)
      have HV47 := Hd.mk (HV46.out.below hb7)
      clear HB6 HR6 HF6 HE6 HN6 HV26 HV36 HV46
      have fl := HF7.out.lt
      have f0 := HF7.out.cell 0
      have f1 := HF7.out.cell 1
      simp only [List.getElem?_toArray, List.getElem?_cons_zero, List.getElem?_cons_succ] at f0 f1
      clear hb7
      gi_wp2_with fail
      clear f0 f1 fl
      refine ⟨trivial, (callsIn_wide.2 (is_true (ErrV.at_ _ _ _ HV47.out) (HG.out.below HB7.out))).mono ?_⟩
      rintro e w8 ⟨rfl, hb8⟩
      have HB8 := Hd.mk (bstep HB7.out hb8)
      have HR8 := Hd.mk (HR7.out.below hb8 HR7.out.lt)
      have HF8 := Hd.mk (HF7.out.below hb8 HF7.out.lt)
      have HE8 := Hd.mk (HE7.out.below hb8 HE7.out.lt)
      have HN8 := Hd.mk (HN7.out.below hb8 HN7.out.lt)
      have HV28 := Hd.mk (HV27.out.below hb8)
      have HV38 := Hd.mk (HV37.out.below hb8)
      have HV48 := Hd.mk (HV47.out.below hb8)
      clear HB7 HR7 HF7 HE7 HN7 HV27 HV37 HV47
      have fl := HF8.out.lt
      have f0 := HF8.out.cell 0
      have f1 := HF8.out.cell 1
      simp only [List.getElem?_toArray, List.getElem?_cons_zero, List.getElem?_cons_succ] at f0 f1
      clear hb8
      gi_wp2_with fail
      clear f0 f1 fl
      refine ⟨trivial, (callsIn_wide.2 (sameR_calls (l := []) (n := 0) (Sl.nil _ _) (Sl.nil _ _) rfl)).mono ?_⟩
      rintro e w9 ⟨rfl, hb9⟩
      have HB9 := Hd.mk (bstep HB8.out hb9)
      have HR9 := Hd.mk (HR8.out.below hb9 HR8.out.lt)
      have HF9 := Hd.mk (HF8.out.below hb9 HF8.out.lt)
      have HE9 := Hd.mk (HE8.out.below hb9 HE8.out.lt)
      have HN9 := Hd.mk (HN8.out.below hb9 HN8.out.lt)
      clear HB8 HR8 HF8 HE8 HN8
      clear hb9 HV28 HV38 HV48
      obtain ⟨ce0, ce1, ce2, ce3⟩ := HE9.out.cells
      obtain ⟨cn0, cn1, cn2, cn3⟩ := HN9.out.cells
      have cf0 := HF9.out.cell 0
      have cf1 := HF9.out.cell 1
      have cl1 := HE9.out.lt
      have cl2 := HN9.out.lt
      have cl3 := HF9.out.lt
      have cr0 := HR9.out.cell 0
      have cr1 := HR9.out.frozen 0
      have cl4 := HR9.out.lt
      simp only [List.getElem?_toArray, List.getElem?_cons_zero, List.getElem?_cons_succ] at cf0 cf1 cr0
      have hq : ∀ w, (binOp .neq 48 (.agg #[.int .i64 zz.b, .int .i64 zz.h, .int .i64 zz.r, .int .i64 zz.l]) (.agg #[.int .i64 zz.b, .int .i64 zz.h, .int .i64 zz.r, .int .i64 zz.l])).run Tryd.prog w = .ok (.bool false) w := fun w => by
        have h := cn_neq zz zz w
        rw [Cn.beq_self] at h
        exact h
      have hqg := fun (op : BinOp) (p q : Operand) (xs ys : Array Value) (w : World) => cn_eqGuard op p q xs ys w
      gi_wp2_with fail
      refine ⟨trivial, ?_⟩
      gi_wp2_with fail
      refine ⟨trivial, ?_⟩
      have hro := HRL.out.2
      gi_wp2_with fail
      clear ce0 ce1 ce2 ce3 cn0 cn1 cn2 cn3 cf0 cf1 cl1 cl2 cl3 cl4 cr0 cr1
      rw [show (ByteArray.mk s.toArray).extract 0 (U.off rs rs.length) = ⟨(U.encs rs).toArray⟩ from by rw [ext_take hro, HSE.out]]
      refine ⟨trivial, (callsIn_wide.2 (redges_calls (s := U.encs rs) HSP.out.all rfl (by rw [← U.off_full]; omega))).mono ?_⟩
      rintro e w12 ⟨⟨v12, rfl, hs12⟩, hb12⟩
      have HB12 := Hd.mk (bstep HB9.out hb12)
      have HR12 := Hd.mk (HR9.out.below hb12 HR9.out.lt)
      clear HB9 HR9
      have HV12 := Hd.mk hs12
      obtain ⟨A12, c12, rfl, -⟩ := hs12
      clear hb12 HF9 HE9 HN9
      gi_wp2_with fail
      refine ⟨trivial, (callsIn_wide.2 (walk_calls s _)).mono ?_⟩
      rintro e w13 ⟨rfl, rfl⟩
      gi_wp2_with fail
      obtain ⟨eb, eo, ec, hv12, heb, hec⟩ := HV12.out.cn (by omega)
      injection hv12 with hv12a _ hv12c
      subst hv12a hv12c
      have hEB : Blk (((w12.alloc (.cells #[.slice (some ⟨eb, eo, none⟩) (rs.length + 1) c12] 57)).alloc (.cells #[.int .i64 0] 3)).alloc (.cells #[.string ⟨s.toArray⟩] 9)) w12.heap.size 57 #[.slice (some ⟨eb, eo, none⟩) (rs.length + 1) c12] := ((Blk.new _ _ _).alloc _).alloc _
      have hIB : Blk (((w12.alloc (.cells #[.slice (some ⟨eb, eo, none⟩) (rs.length + 1) c12] 57)).alloc (.cells #[.int .i64 0] 3)).alloc (.cells #[.string ⟨s.toArray⟩] 9)) (w12.heap.size + 1) 3 #[.int .i64 0] := by
        have h := Blk.new (w12.alloc (.cells #[.slice (some ⟨eb, eo, none⟩) (rs.length + 1) c12] 57)) 3 #[.int .i64 0]
        rw [World.size_alloc] at h; exact h.alloc _
      have hSB : Blk (((w12.alloc (.cells #[.slice (some ⟨eb, eo, none⟩) (rs.length + 1) c12] 57)).alloc (.cells #[.int .i64 0] 3)).alloc (.cells #[.string ⟨s.toArray⟩] 9)) (w12.heap.size + 2) 9 #[.string ⟨s.toArray⟩] := by
        have h := Blk.new ((w12.alloc (.cells #[.slice (some ⟨eb, eo, none⟩) (rs.length + 1) c12] 57)).alloc (.cells #[.int .i64 0] 3)) 9 #[.string ⟨s.toArray⟩]
        rw [World.size_alloc, World.size_alloc] at h; exact h
      have hBZ : Below w12.heap.size w12 (((w12.alloc (.cells #[.slice (some ⟨eb, eo, none⟩) (rs.length + 1) c12] 57)).alloc (.cells #[.int .i64 0] 3)).alloc (.cells #[.string ⟨s.toArray⟩] 9)) := ex_alloc (ex_alloc (ex_alloc (Below.refl _ _) _) _) _
      generalize (((w12.alloc (.cells #[.slice (some ⟨eb, eo, none⟩) (rs.length + 1) c12] 57)).alloc (.cells #[.int .i64 0] 3)).alloc (.cells #[.string ⟨s.toArray⟩] 9)) = wz at *
      have hzl := hSB.lt
      have HEC := Hd.mk hec
      have HSB := Hd.mk hSB
      have HR12l := HR12.out.lt
      generalize hz : w12.heap.size = z at *
      refine range_b (gf := 56) (lb := #[.pointer (some ⟨z + 2, 0, none⟩)]) (xs := fun k => #[(cnt (rs.take k)).v, (oneC (rs[k]?.getD 0) (U.wid (rs[k]?.getD 0))).v]) (N := rs.length) (iB := z + 1) rfl (enters_of Tryd.func56 (by kernel_rfl) rfl) (by omega)
        (fun l J Jx W hb hJ hY h0 => walk1_in 5 l (z + 2) (z + 1) HSP.out (by omega) J Jx W (by omega) (HSB.out.below hb HSB.out.lt) (by have := hb.size; omega) (by omega) hJ (fun k A hk hj => by have := hY k A hk hj; simpa [hk] using this) h0)
        (fun _ => rfl) (fun k W => Below z w12 W ∧ Blk W z 57 #[.slice (some ⟨eb, eo, none⟩) (rs.length + 1) c12] ∧ Blk W (z + 1) 3 #[.int .i64 k])
        (fun k A B h hb => ⟨h.1.trans (hb.mono (by omega)), h.2.1.below hb (by omega), h.2.2.below hb (by omega)⟩) ⟨hBZ, hEB, hIB⟩ ?round ?done
      case round =>
        rintro l k W hk ⟨hbW, hEW, hIW⟩ hlt
        gi_wp2_with fail
        refine ⟨ex_alloc (ex_alloc (Below.refl _ _) _) _, fun o => ?_⟩
        have HCS : Hd (cnt (rs.take (k + 1)) = (cnt (rs.take k)).add (oneC rs[k] (U.wid rs[k]))) := ⟨by rw [List.take_succ_eq_append_getElem hk, cnt_snoc]⟩
        have HCI : Hd ((cnt (rs.take k)).In 2305843009213693952) := ⟨by
          obtain ⟨⟨b0, b1, h0, h1, r0, r1, l0, l1⟩, _, _⟩ := cnt_in (rs.take k)
          have := HRL.out
          rw [List.length_take] at b1 h1 r1 l1
          exact ⟨b0, by omega, h0, by omega, r0, by omega, l0, by omega⟩⟩
        have HOI : Hd ((oneC rs[k] (U.wid rs[k])).In 2305843009213693952) := ⟨by
          obtain ⟨b0, b1, h0, h1, r0, r1, l0, l1⟩ := oneC_in rs[k]
          exact ⟨b0, by omega, h0, by omega, r0, by omega, l0, by omega⟩⟩
        have he0 := HEC.out k _ (edgs_at rs (by omega))
        have he1 := HEC.out (k + 1) _ (edgs_at rs (by omega))
        rw [HCS.out] at he1
        have hkr : k < 600 := by have := HRL.out; omega
        generalize cnt (rs.take k) = cx at *
        generalize oneC rs[k] (U.wid rs[k]) = ox at *
        have hA : CnBlk (((W.alloc (.cells #[.int .i64 cx.b, .int .i64 cx.h, .int .i64 cx.r, .int .i64 cx.l] 48)).alloc (.cells #[.int .i64 ox.b, .int .i64 ox.h, .int .i64 ox.r, .int .i64 ox.l] 48)).putObj (wz.heap.size + 1) o) W.heap.size cx := Blk.putObj ((Blk.new _ _ _).alloc _) (by omega) o
        have hO : CnBlk (((W.alloc (.cells #[.int .i64 cx.b, .int .i64 cx.h, .int .i64 cx.r, .int .i64 cx.l] 48)).alloc (.cells #[.int .i64 ox.b, .int .i64 ox.h, .int .i64 ox.r, .int .i64 ox.l] 48)).putObj (wz.heap.size + 1) o) (W.heap.size + 1) ox := Blk.putObj (by
          have h := Blk.new (W.alloc (.cells #[.int .i64 cx.b, .int .i64 cx.h, .int .i64 cx.r, .int .i64 cx.l] 48)) 48 #[.int .i64 ox.b, .int .i64 ox.h, .int .i64 ox.r, .int .i64 ox.l]
          rw [World.size_alloc] at h; exact h) (by omega) o
        have hE := ((hEW.alloc (.cells #[.int .i64 cx.b, .int .i64 cx.h, .int .i64 cx.r, .int .i64 cx.l] 48)).alloc (.cells #[.int .i64 ox.b, .int .i64 ox.h, .int .i64 ox.r, .int .i64 ox.l] 48)).putObj (l := wz.heap.size + 1) (by omega) o
        have hI := ((hIW.alloc (.cells #[.int .i64 cx.b, .int .i64 cx.h, .int .i64 cx.r, .int .i64 cx.l] 48)).alloc (.cells #[.int .i64 ox.b, .int .i64 ox.h, .int .i64 ox.r, .int .i64 ox.l] 48)).putObj (l := wz.heap.size + 1) (by omega) o
        have hB : Below z w12 (((W.alloc (.cells #[.int .i64 cx.b, .int .i64 cx.h, .int .i64 cx.r, .int .i64 cx.l] 48)).alloc (.cells #[.int .i64 ox.b, .int .i64 ox.h, .int .i64 ox.r, .int .i64 ox.l] 48)).putObj (wz.heap.size + 1) o) := hbW.trans (((ex_alloc (ex_alloc (Below.refl W.heap.size W) _) _).mono (by omega)).trans (putObj_below _ _ _ (by omega)))
        generalize (((W.alloc (.cells #[.int .i64 cx.b, .int .i64 cx.h, .int .i64 cx.r, .int .i64 cx.l] 48)).alloc (.cells #[.int .i64 ox.b, .int .i64 ox.h, .int .i64 ox.r, .int .i64 ox.l] 48)).putObj (wz.heap.size + 1) o) = wq at *
        generalize W.heap.size = q at *
        clear hEW hIW hbW
        have HA := Hd.mk hA
        have HO := Hd.mk hO
        have HE := Hd.mk hE
        have HI := Hd.mk hI
        have HB := Hd.mk hB
        obtain ⟨a0, a1, a2, a3⟩ := hA.cells
        obtain ⟨o0, o1, o2, o3⟩ := hO.cells
        have e0 := hE.cell 0
        have i0 := hI.cell 0
        have hiz := hI.frozen 0
        have hil := hI.lt
        simp only [List.getElem?_toArray, List.getElem?_cons_zero] at e0 i0
        have heb' : eb < z := by omega
        have g0 := (hB.cell (p := ⟨eb, eo + k * 4, none⟩) heb').trans he0.1
        have g1 := (hB.cell (p := ⟨eb, eo + k * 4 + 1, none⟩) heb').trans he0.2.1
        have g2 := (hB.cell (p := ⟨eb, eo + k * 4 + 2, none⟩) heb').trans he0.2.2.1
        have g3 := (hB.cell (p := ⟨eb, eo + k * 4 + 3, none⟩) heb').trans he0.2.2.2
        have f0 := (hB.cell (p := ⟨eb, eo + (k + 1) * 4, none⟩) heb').trans he1.1
        have f1 := (hB.cell (p := ⟨eb, eo + (k + 1) * 4 + 1, none⟩) heb').trans he1.2.1
        have f2 := (hB.cell (p := ⟨eb, eo + (k + 1) * 4 + 2, none⟩) heb').trans he1.2.2.1
        have f3 := (hB.cell (p := ⟨eb, eo + (k + 1) * 4 + 3, none⟩) heb').trans he1.2.2.2
        clear hA hO hE hI hB he0 he1
        have hqx : ∀ w, (binOp .neq 48 (.agg #[.int .i64 cx.b, .int .i64 cx.h, .int .i64 cx.r, .int .i64 cx.l]) (.agg #[.int .i64 cx.b, .int .i64 cx.h, .int .i64 cx.r, .int .i64 cx.l])).run Tryd.prog w = .ok (.bool false) w := fun w => by
          have h := cn_neq cx cx w
          rw [Cn.beq_self] at h
          exact h
        have hqy : ∀ w, (binOp .neq 48 (.agg #[.int .i64 (cx.add ox).b, .int .i64 (cx.add ox).h, .int .i64 (cx.add ox).r, .int .i64 (cx.add ox).l]) (.agg #[.int .i64 (cx.add ox).b, .int .i64 (cx.add ox).h, .int .i64 (cx.add ox).r, .int .i64 (cx.add ox).l])).run Tryd.prog w = .ok (.bool false) w := fun w => by
          have h := cn_neq (cx.add ox) (cx.add ox) w
          rw [Cn.beq_self] at h
          exact h
        have hqg := fun (op : BinOp) (p q : Operand) (xs ys : Array Value) (w : World) => cn_eqGuard op p q xs ys w
        have hwk : IntKind.i64.wrap ((k : Int) + 1) = ((k + 1 : Nat) : Int) := by rw [IntKind.wrap_i64] <;> omega
        have hge : ¬ (((rs.length + 1 : Nat) : Int) ≤ ((k + 1 : Nat) : Int)) := by omega
        gi_wp2_with fail
        have ka0 := cell_regrown a0
        have ka1 := cell_regrown a1
        have ka2 := cell_regrown a2
        have ka3 := cell_regrown a3
        have ko0 := cell_regrown o0
        have ko1 := cell_regrown o1
        have ko2 := cell_regrown o2
        have ko3 := cell_regrown o3
        have ke0 := cell_regrown e0
        have ki0 := cell_regrown i0
        have kg0 := cell_regrown g0
        have kg1 := cell_regrown g1
        have kg2 := cell_regrown g2
        have kg3 := cell_regrown g3
        have kf0 := cell_regrown f0
        have kf1 := cell_regrown f1
        have kf2 := cell_regrown f2
        have kf3 := cell_regrown f3
        have hcp : ∀ d os, CallsIn Fence.wide 3 Tryd.prog 26 #[cx.v, ox.v] (Go.Sort.grow (redrawn wq d) os) fun e w'' => e = .returned (cx.add ox).v ∧ ∃ p : Regrown, w'' = Go.Sort.grow (redrawn wq p.d) p.os := fun d os => CallsIn.regrown_of (callsIn_wide.2 (plus_calls cx ox _ HCI.out HOI.out))
        have hb1 : (k : Int) < (rs.length : Int) + 1 := by omega
        have hb2 : (k : Int) < (rs.length : Int) := by omega
        have hb3 : (0 : Int) ≤ (k : Int) + 1 := by omega
        refine round_quiet_below (by kernel_rfl) (by kernel_rfl) (by kernel_rfl) ?_
        repeat (refine wpQuietIn_step (fun _ _ _ _ => trivial) (fun K hK => ?_); go_simp; first | (refine hK _ ?_; clear hK K) | (apply Exists.intro; refine ⟨fun _ => ?_, hK _ ?_⟩; (first | exact ⟨fun h => absurd h (by decide), hcp _ _⟩ | exact hcp _ _ | exact ⟨rfl, fun h => absurd h (by decide), hcp _ _⟩); clear hK K))
        refine wpQuietIn_nil ?_
        intro _ hw'
        obtain ⟨⟨dq, osq⟩, hw''⟩ := hw'
        subst hw''
        have hbg := below_regrown wq dq osq
        have hI1 := HI.out.below hbg HI.out.lt
        have hE1 := HE.out.below hbg HE.out.lt
        have hB1 := HB.out.trans (hbg.mono (by omega))
        have hi1 := hI1.cell 0
        have hi2 := hI1.frozen 0
        simp only [List.getElem?_toArray, List.getElem?_cons_zero] at hi1
        clear ka0 ka1 ka2 ka3 ko0 ko1 ko2 ko3 ke0 ki0 kg0 kg1 kg2 kg3 kf0 kf1 kf2 kf3 hcp a0 a1 a2 a3 o0 o1 o2 o3 e0 i0 g0 g1 g2 g3 f0 f1 f2 f3 hiz
        gi_wp2_with fail
        refine ⟨rfl, ⟨hB1.setCell (p := ⟨z + 1, 0, none⟩) (by show z ≤ z + 1; omega) _, hE1.far (by show z ≠ z + 1; omega) _, ?_⟩, ?_, ?_⟩
        · have h := hI1.set_ 0 (.int .i64 ((k : Int) + 1))
          simpa using h
        · rw [World.size_setCell]; exact hbg.size
        · intro b hb hne
          rw [Below.heap_setCell _ _ _ _ hne]
          exact hbg.block b hb
      case done =>
        rintro W ⟨hbW, hEW, hIW⟩ hD
        have hRW := HR12.out.below hbW (by omega)
        have hb0 := (HB12.out).trans (hbW.mono (by omega))
        have e0 := hEW.cell 0
        have i0 := hIW.cell 0
        have r0 := hRW.cell 0
        have rf := hRW.frozen 0
        have rl := hRW.lt
        have HRW := Hd.mk hRW
        have HBW := Hd.mk hb0
        have HDW := Hd.mk hD
        simp only [List.getElem?_toArray, List.getElem?_cons_zero] at e0 i0 r0
        have hr6 : rs.length ≤ 600 := HRL.out.1
        clear hbW hEW hIW hRW hb0 hD
        gi_wp2_with fail
        have hne : wz.heap.size ≠ w.heap.size := by omega
        have hK' : (W.setCell ⟨w.heap.size, 0, none⟩ (.bool true)).heap[wz.heap.size]? = some (.deferred (some [])) := (Below.heap_setCell _ _ _ _ hne).trans HDW.out
        have hF := (HRW.out.set_ 0 (.bool true)).putObj (Ne.symm hne) (.deferred none)
        have hc5 := hF.cell 0
        simp only [List.setIfInBounds_toArray, List.set_cons_zero, List.getElem?_toArray, List.getElem?_cons_zero] at hc5
        refine ⟨by simp, .inl ⟨_, _, rfl, run_takeDeferred hK', ?_⟩⟩
        exact ⟨.bool true, by simp [results, Tryd.f5, go_sem, hc5], rfl, (HBW.out.setCell (p := ⟨w.heap.size, 0, none⟩) (Nat.le_refl _) _).trans (putObj_below _ _ _ (by omega))⟩
end Go.Proofs.YthbhhnfhjppbdaaDoor
