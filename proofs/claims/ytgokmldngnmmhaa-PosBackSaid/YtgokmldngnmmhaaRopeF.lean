/- Counts, edge. -/
import Derived.Test.YtgokmldngnmmhaaRopeE
namespace Go.Proofs.Ytgokmldngnmmhaa
open Go.RowKit
set_option maxRecDepth 100000
attribute [local go_sem] Cn.v_eq
theorem counts_calls {p : Nat} {t : RT} {w : World} (h : AtR w p t) :
    Calls Try.prog 8 #[.pointer (some ⟨p, 0, none⟩)] w fun e w' => e = .returned (cnt t.runes).v ∧ Below w.heap.size w w' := by
  have HT := Hd.mk h.tree
  have c0 := h.blk.cell 0
  have lt := h.blk.lt
  simp only [List.getElem?_toArray, List.getElem?_cons_zero, RT.ptr] at c0
  clear h
  go_enter Try.func8, Try.ntmps8
  go_wp2_with (go_at_call 16; refine (all_calls (t := t) (HT.out.below (ex_alloc (Below.refl _ _) _))).mono ?_; rintro e w1 ⟨rfl, hb⟩; generalize hcc : cnt t.runes = c; have HCC := Hd.mk hcc; clear hcc; have hc : CnBlk w1 w.heap.size Cn.zero := CnBlk.below (heap_alloc_new w _) hb (by simp); obtain ⟨q0, q1, q2, q3⟩ := hc.cells; have qf := hc.frozen; have ql := hc.lt; have HC := Hd.mk hc; have HB := Hd.mk hb; clear hb hc)
  refine HC.out.set4 (F := fun W => bodyPost _ _ _ Exit.ret _ W) (y := c) ?_
  intro w3 hC3 hB3 hs3 hf3
  obtain ⟨g0, g1, g2, g3⟩ := hC3.cells
  refine bodyPost_ret (v := c.v) (by simp [results, Try.results8, go_sem, g0, g1, g2, g3]) rfl ?_
  exact ⟨by rw [HCC.out], ((ex_alloc (Below.refl _ _) _).trans (HB.out.mono (by simp))).trans (hB3 _ (Nat.le_refl _))⟩
attribute [local go_sem] field_cn cnt_b
theorem byte_at {s : U.Bs} {j : Nat} (h : j < s.length) (hh) : (ByteArray.mk s.toArray)[j]'hh = s.getD j 0 := by
  have : (ByteArray.mk s.toArray)[j]'hh = s[j] := rfl
  rw [this]; simp [h]
/-- The chunk that a place lies in has its byte. -/
theorem redg_chunk {t : RT} {a b : List (List Int)} {c : List Int} {k j : Nat} (h : t.chunks = a ++ c :: b) (hk : k = cb a + j) (hj : j < bl c) : redg (U.encs t.runes) k = !U.cont ((U.encs c).getD j 0) := by
  have e : U.encs t.runes = U.encs a.flatten ++ (U.encs c ++ U.encs b.flatten) := by
    rw [RT.runes_chunks, h, List.flatten_append, List.flatten_cons, U.encs_append, U.encs_append]
  have la : (U.encs a.flatten).length = cb a := rfl
  have lc : (U.encs c).length = bl c := rfl
  unfold redg
  rw [e, decide_eq_false (by simp only [List.length_append, la, lc]; omega)]
  rw [List.getD_eq_getElem?_getD, List.getElem?_append_right (by omega), la, hk, Nat.add_sub_cancel_left, List.getElem?_append_left (by omega), ← List.getD_eq_getElem?_getD, Bool.false_or]
set_option maxHeartbeats 1000000 in
theorem edge_calls {p k : Nat} {t : RT} {w : World} (h : AtR w p t) (hg : Good t) (hk : k ≤ bl t.runes) :
    Calls Try.prog 22 #[.pointer (some ⟨p, 0, none⟩), .int .i64 k] w fun e w' => e = .returned (.bool (redg (U.encs t.runes) k)) ∧ Below w.heap.size w w' := by
  have HR := Hd.mk h
  have HG := Hd.mk hg
  have hsz := hg.sz
  by_cases he : k = bl t.runes
  · have hb : ((k : Int) == (bl t.runes : Int)) = true := by rw [he]; exact beq_self_eq_true _
    have HE : Hd (redg (U.encs t.runes) k = true) := ⟨by unfold redg; rw [decide_eq_true (by rw [he]; rfl)]; rfl⟩
    clear h hg hk he
    go_enter Try.func22, Try.ntmps22
    go_wp2_with (go_at_call 8; refine (counts_calls HR.out).mono ?_; rintro e w1 ⟨rfl, hb1⟩; simp only [Cn.v_eq, cnt_b]; have HB := Hd.mk hb1; clear hb1)
    go_ret
    rw [HE.out]
    exact ⟨rfl, HB.out⟩
  · have hb : ((k : Int) == (bl t.runes : Int)) = false := by rw [beq_eq_false_iff_ne]; omega
    have hn : t ≠ .nil := by rintro rfl; simp at he hk; exact he hk
    obtain ⟨a, c, b, h1, h2, h3, h4⟩ := RT.findT_chunks (k := k) (f := 0) hg.ne hn (Nat.zero_le _)
    rw [Nat.zero_add] at h2 h3 h4
    have hj : k < cb a + bl c := by
      rcases h4 with h4 | rfl
      · exact h4
      · have := cb_runes t
        rw [h1] at this
        simp at this
        omega
    obtain ⟨j, hj2⟩ : ∃ j, k = cb a + j := ⟨k - cb a, by omega⟩
    have hjc : j < bl c := by omega
    have HE : Hd (redg (U.encs t.runes) k = !U.cont ((U.encs c).getD j 0)) := ⟨redg_chunk h1 hj2 hjc⟩
    have hfb : cb a ≤ 8000 := by omega
    have HF := Hd.mk (fun w1 (hb : Below w.heap.size w w1) => find_calls (k := k) (h.below hb) (by omega) (by omega))
    rw [h2] at HF
    generalize hca : cb a = f at *
    subst hj2
    have hlc : j < (U.encs c).length := hjc
    have hl : (U.encs c).length = bl c := rfl
    have hlb : (U.encs c).length ≤ 8000 := by have := hg.le c (by rw [h1]; simp); omega
    have e0 := fun hh => byte_at (s := U.encs c) (j := j) hlc hh
    clear h hg hk he hn h1 h2 h3 h4 hj hca hjc hl
    by_cases hc : U.cont ((U.encs c).getD j 0) = true
    · have h1 := contT hc
      rw [hc] at HE
      clear hc
      generalize (U.encs c).getD j 0 = x at *
      have hx := x.toNat_lt
      go_enter Try.func22, Try.ntmps22
      go_wp2_with (first
        | (go_at_call 8; refine (counts_calls HR.out).mono ?_; rintro e w1 ⟨rfl, hb1⟩; simp only [Cn.v_eq, cnt_b]; have HB := Hd.mk hb1; clear hb1)
        | (go_at_call 23; refine (HF.out _ HB.out).mono ?_; rintro e w2 ⟨rfl, hb2⟩; have HB2 := Hd.mk hb2; clear hb2))
      go_ret
      rw [HE.out]
      exact ⟨rfl, HB.out.trans (HB2.out.mono HB.out.size)⟩
    · have h1 := contF hc
      rw [show U.cont ((U.encs c).getD j 0) = false by simpa using hc] at HE
      clear hc
      generalize (U.encs c).getD j 0 = x at *
      have hx := x.toNat_lt
      go_enter Try.func22, Try.ntmps22
      go_wp2_with (first
        | (go_at_call 8; refine (counts_calls HR.out).mono ?_; rintro e w1 ⟨rfl, hb1⟩; simp only [Cn.v_eq, cnt_b]; have HB := Hd.mk hb1; clear hb1)
        | (go_at_call 23; refine (HF.out _ HB.out).mono ?_; rintro e w2 ⟨rfl, hb2⟩; have HB2 := Hd.mk hb2; clear hb2))
      go_ret
      rw [HE.out]
      exact ⟨rfl, HB.out.trans (HB2.out.mono HB.out.size)⟩
end Go.Proofs.Ytgokmldngnmmhaa
