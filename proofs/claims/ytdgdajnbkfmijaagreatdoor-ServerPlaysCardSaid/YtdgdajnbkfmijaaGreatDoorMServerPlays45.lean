/- The law's sameEntries. -/
import Derived.Test.YtdgdajnbkfmijaaGreatDoorMServerPlays42
import Derived.Test.YtdgdajnbkfmijaaGreatDoorMServerPlays21
import Derived.Lib.QuietBelow
namespace Go.Proofs.YtdgdajnbkfmijaaGreatDoor
open Go.RowKit Go.Sort
set_option maxRecDepth 100000
section
attribute [local go_sem] add_mk
set_option maxHeartbeats 4000000 in
theorem sameEn_calls {LA LB : List (EN × Value)} {va vb : Value} {n : Nat} {w : World} (ha : Sl w 3 va n (ens LA)) (hb : Sl w 3 vb n (ens LB)) (hf : LA.map Prod.fst = LB.map Prod.fst)
    (hoa : ∀ x ∈ LA, Sl w 3 x.2 x.1.op.length (opv x.1.op)) (hob : ∀ x ∈ LB, Sl w 3 x.2 x.1.op.length (opv x.1.op)) (hn : n ≤ 1000) :
    Calls Tryz.prog 19 #[va, vb] w fun e w' => e = .returned (.bool true) ∧ Below w.heap.size w w' := by
  have hla : LA.length = n := by have := ha.len; rw [ens_length] at this; omega
  have hlb : LB.length = n := by have := hb.len; rw [ens_length] at this; omega
  have HA := Hd.mk ha
  have HB := Hd.mk hb
  have HF := Hd.mk hf
  have HOA := Hd.mk hoa
  have HOB := Hd.mk hob
  have HLA := Hd.mk hla
  have HLB := Hd.mk hlb
  obtain ⟨A1, c1, rfl, -⟩ := ha
  obtain ⟨A2, c2, rfl, -⟩ := hb
  clear hf hoa hob hla hlb
  go_enter Tryz.func19, Tryz.ntmps19
  go_wp2_with fail
  go_loopw [5] (fun i wr => ∃ k : Nat, k ≤ n ∧ i = .int .i64 k ∧ Below w.heap.size w wr) (fun i _ => n - (intOf i).toNat)
  case atStart => exact ⟨0, by omega, rfl, (by repeat (first | exact Below.refl _ _ | exact ex_drew (by assumption) | apply ex_drew | apply ex_drewN | apply ex_alloc | assumption))⟩
  case round =>
    obtain ⟨k, hk, rfl, hbel⟩ := hrel
    have HBL := Hd.mk hbel
    by_cases hkn : k < n
    · have hka : k < LA.length := by rw [HLA.out]; exact hkn
      have hkb : k < LB.length := by rw [HLB.out]; exact hkn
      obtain ⟨b, o, c', hv, hlt, q0, q1, q2⟩ := (HA.out.below hbel).entry hkn hka
      cases hv
      obtain ⟨b', o', c'', hv, hlt', r0, r1, r2⟩ := (HB.out.below hbel).entry hkn hkb
      cases hv
      have e1 : LB[k].1 = LA[k].1 := by
        have := congrArg (fun l => l[k]?) HF.out
        simp only [List.getElem?_map, List.getElem?_eq_getElem hka, List.getElem?_eq_getElem hkb, Option.map_some, Option.some.injEq] at this
        exact this.symm
      have s1 := (HOA.out _ (List.getElem_mem hka)).below hbel
      have s2 := (HOB.out _ (List.getElem_mem hkb)).below hbel
      rw [e1] at r0 r1 s2
      generalize LA[k] = x at *
      generalize LB[k].2 = y at *
      obtain ⟨⟨xw, xi, xo⟩, xv⟩ := x
      dsimp only at *
      have hS : ∀ d os, Calls Tryz.prog 58 #[xv, y] (grow (redrawn wr d) os) fun e w'' => e = .returned (.bool true) ∧ ∃ p : Regrown, w'' = grow (redrawn wr p.d) p.os := fun d os => Calls.regrown_of (same_calls (s1.below (below_regrown wr d os)) (s2.below (below_regrown wr d os)))
      obtain ⟨m, hm⟩ : ∃ m, m = xo.length := ⟨_, rfl⟩
      rw [← hm] at s1 s2
      obtain ⟨A3, c3, rfl, -⟩ := s1
      obtain ⟨A4, c4, rfl, -⟩ := s2
      have kq0 := cell_regrown q0
      have kq1 := cell_regrown q1
      have kq2 := cell_regrown q2
      have kr0 := cell_regrown r0
      have kr1 := cell_regrown r1
      have kr2 := cell_regrown r2
      clear hm e1 hka hkb
      go_wp2_with fail
      refine wp_region_quiet_below (by kernel_rfl) (by kernel_rfl) ?_
      repeat (quiet_step ((go_at_call 58; exact hS _ _)))
      refine wpQuiet_nil ?_
      rintro _ ⟨⟨dq, oq⟩, rfl⟩
      have HBz := Hd.mk (bstep HBL.out (below_regrown wr dq oq))
      generalize grow (redrawn wr dq) oq = wz at HBz ⊢
      go_wp2_with fail
      exact ⟨⟨k + 1, by omega, by go_num, HBz.out⟩, by simp only [intOf]; omega⟩
    · obtain rfl : k = n := by omega
      go_wp2_with fail
      go_ret
      exact ⟨rfl, HBL.out⟩
end
end Go.Proofs.YtdgdajnbkfmijaaGreatDoor
