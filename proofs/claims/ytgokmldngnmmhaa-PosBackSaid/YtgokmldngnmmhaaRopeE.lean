/- find, edge, Counts. -/
import Derived.Test.YtgokmldngnmmhaaRopeD
import Derived.Test.YtgokmldngnmmhaaRopeQ
import Derived.Test.YtgokmldngnmmhaaRopeH
namespace Go.Proofs.Ytgokmldngnmmhaa
open Go.RowKit
set_option maxRecDepth 100000
/-- A document in memory. -/
structure AtR (w : World) (p : Nat) (t : RT) : Prop where
  blk : Blk w p 50 #[t.ptr]
  tree : AtT w t
  out : p ∉ t.blocks
theorem AtR.below {w w' : World} {p : Nat} {t : RT} (h : AtR w p t) (hb : Below w.heap.size w w') : AtR w' p t := ⟨h.blk.below hb h.blk.lt, h.tree.below hb, h.out⟩
/-- A tree as the rope's functions leave it. -/
structure Good (t : RT) : Prop where
  nodup : t.blocks.Nodup
  ne : Ne t.chunks
  le : ∀ c ∈ t.chunks, bl c ≤ 32
  all : U.AllR t.runes
  bal : t.Bal
  sz : bl t.runes ≤ 8000
theorem ne_len {cs : List (List Int)} (h : Ne cs) : cs.length ≤ cs.flatten.length := by
  induction cs with
  | nil => simp
  | cons c cs ih =>
    have := ih h.tl
    have := List.length_pos_iff.2 h.hd
    simp only [List.length_cons, List.flatten_cons, List.length_append]; omega
theorem Good.sm {t : RT} (h : Good t) : Sm t.runes t.nodes.length := by
  have h1 := bl_len t.runes
  have h2 := ne_len h.ne
  have h3 := h.sz
  rw [RT.len_chunks, ← RT.runes_chunks] at h2
  exact ⟨by omega, by omega⟩
theorem Good.ap {t : RT} (h : Good t) : Ap t := ⟨h.nodup, h.sm⟩
attribute [local go_sem] Cn.v_eq field_cn cnt_b
set_option maxHeartbeats 2000000 in
theorem find_calls {p k : Nat} {t : RT} {w : World} (h : AtR w p t) (hs : bl t.runes ≤ 4398046511104) (hk : k ≤ 4398046511104) :
    Calls Try.prog 23 #[.pointer (some ⟨p, 0, none⟩), .int .i64 k] w fun e w' => e = .returned (.tuple #[.string ⟨(U.encs (t.findT k 0).1).toArray⟩, .int .i64 (t.findT k 0).2]) ∧ Below w.heap.size w w' := by
  have HT := Hd.mk h.tree
  have c0 := h.blk.cell 0
  have lt := h.blk.lt
  simp only [List.getElem?_toArray, List.getElem?_cons_zero] at c0
  obtain ⟨pt, hpt⟩ : ∃ x, t.pa = x := ⟨_, rfl⟩
  have HPT := Hd.mk hpt
  simp only [RT.ptr] at c0
  rw [hpt] at c0
  clear h hpt
  go_enter Try.func23, Try.ntmps23
  go_wp2_with fail
  go_loopg [6, 7] t.nodes.length (fun gk n f wr => Below w.heap.size w wr ∧ ∃ (s : RT) (fr : Nat), n = s.ptr ∧ f = .int .i64 fr ∧ AtT w s ∧ s.findT k fr = t.findT k 0 ∧ fr + bl s.runes ≤ bl t.runes ∧ s.nodes.length ≤ gk)
  case atStart => exact ⟨Below.refl _ _, t, 0, by rw [RT.ptr, HPT.out], rfl, HT.out, rfl, by omega, Nat.le_refl _⟩
  case round =>
    obtain ⟨hbw, s, fr, rfl, rfl, hat, hf, hsz, hg⟩ := hrel
    have HBW := Hd.mk hbw
    have HAT := Hd.mk hat
    have HF := Hd.mk hf
    have HG := Hd.mk hg
    clear hbw hat hf hg c0 lt
    cases s with
    | nil =>
      rw [RT.ptr_nil]
      go_wp2_with fail
      go_ret2
      rw [← HF.out]
      exact ⟨rfl, HBW.out⟩
    | node g rs l r =>
      have hb1 : bl l.runes ≤ 4398046511104 := by simp only [RT.runes_node, bl_append] at hsz; omega
      have hb2 : bl rs ≤ 4398046511104 := by simp only [RT.runes_node, bl_append] at hsz; omega
      have hf1 : fr ≤ 4398046511104 := by omega
      have HSZ := Hd.mk hsz
      clear hsz
      have hgb := HAT.out.1.below HBW.out HAT.out.1.lt
      obtain ⟨c0, c1, -, -, -, -, -, -, -, c9, c10, -⟩ := nodeV_cell hgb
      rw [cnt_b] at c1
      have lt := hgb.lt
      simp only [RT.ptr] at c9 c10
      rw [RT.ptr_node]
      clear hgb
      by_cases h1 : k < fr + bl l.runes
      · have hi : (k : Int) < (fr : Int) + (bl l.runes : Int) := by omega
        have hw : wrap64 ((fr : Int) + (bl l.runes : Int)) = (fr : Int) + (bl l.runes : Int) := by unfold wrap64; omega
        go_wp2_with (go_at_call 16; refine (all_calls (t := l) (HAT.out.2.1.below HBW.out)).mono ?_; rintro e w1 ⟨rfl, hb⟩; simp only [cnt_b, Cn.v_eq]; have hg1 := HAT.out.1.below (HBW.out.trans (hb.mono HBW.out.size)) HAT.out.1.lt; obtain ⟨c0, c1, -, -, -, -, -, -, -, c9, c10, -⟩ := nodeV_cell hg1; rw [cnt_b] at c1; have lt := hg1.lt; simp only [RT.ptr] at c9 c10; have HB := Hd.mk hb; clear hb hg1)
        go_roundg l.nodes.length
        case rel => exact ⟨HBW.out.trans (HB.out.mono HBW.out.size), l, fr, rfl, rfl, HAT.out.2.1, by rw [← HF.out]; exact (if_pos h1).symm, by have := HSZ.out; simp only [RT.runes_node, bl_append] at this; omega, Nat.le_refl _⟩
        case measure => have := HG.out; simp only [RT.nodes_node, List.length_append, List.length_cons] at this; omega
      · have hi : ¬ ((k : Int) < (fr : Int) + (bl l.runes : Int)) := by omega
        have hw : wrap64 ((fr : Int) + (bl l.runes : Int)) = (fr : Int) + (bl l.runes : Int) := by unfold wrap64; omega
        have hw2 : wrap64 ((fr : Int) + (bl l.runes : Int) + (bl rs : Int)) = (fr : Int) + (bl l.runes : Int) + (bl rs : Int) := by unfold wrap64; omega
        have hE : (RT.node g rs l r).findT k fr = if k < fr + bl l.runes + bl rs ∨ r.isNil = true then (rs, fr + bl l.runes) else r.findT k (fr + bl l.runes + bl rs) := if_neg h1
        by_cases h2 : k < fr + bl l.runes + bl rs
        · have hi2 : (k : Int) < (fr : Int) + (bl l.runes : Int) + (bl rs : Int) := by omega
          have HE : Hd (t.findT k 0 = (rs, fr + bl l.runes)) := ⟨by rw [← HF.out, hE, if_pos (.inl h2)]⟩
          clear hE
          go_wp2_with (go_at_call 16; refine (all_calls (t := l) (HAT.out.2.1.below HBW.out)).mono ?_; rintro e w1 ⟨rfl, hb⟩; simp only [cnt_b, Cn.v_eq]; have hg1 := HAT.out.1.below (HBW.out.trans (hb.mono HBW.out.size)) HAT.out.1.lt; obtain ⟨c0, c1, -, -, -, -, -, -, -, c9, c10, -⟩ := nodeV_cell hg1; rw [cnt_b] at c1; have lt := hg1.lt; simp only [RT.ptr] at c9 c10; have HB := Hd.mk hb; clear hb hg1)

          go_ret2
          rw [HE.out]
          exact ⟨by simp, HBW.out.trans (HB.out.mono HBW.out.size)⟩
        · have hi2 : ¬ ((k : Int) < (fr : Int) + (bl l.runes : Int) + (bl rs : Int)) := by omega
          cases r with
          | nil =>
            have HE : Hd (t.findT k 0 = (rs, fr + bl l.runes)) := ⟨by rw [← HF.out, hE, if_pos (.inr rfl)]⟩
            clear hE
            go_wp2_with (go_at_call 16; refine (all_calls (t := l) (HAT.out.2.1.below HBW.out)).mono ?_; rintro e w1 ⟨rfl, hb⟩; simp only [cnt_b, Cn.v_eq]; have hg1 := HAT.out.1.below (HBW.out.trans (hb.mono HBW.out.size)) HAT.out.1.lt; obtain ⟨c0, c1, -, -, -, -, -, -, -, c9, c10, -⟩ := nodeV_cell hg1; rw [cnt_b] at c1; have lt := hg1.lt; rw [RT.ptr_nil] at c10; simp only [RT.ptr] at c9; have HB := Hd.mk hb; clear hb hg1)
            go_ret2
            rw [HE.out]
            exact ⟨by simp, HBW.out.trans (HB.out.mono HBW.out.size)⟩
          | node g2 rs2 l2 r2 =>
            obtain ⟨f2, hf2⟩ : ∃ f2, f2 = fr + bl l.runes + bl rs := ⟨_, rfl⟩
            have HE : Hd ((RT.node g2 rs2 l2 r2).findT k f2 = t.findT k 0) := ⟨by rw [hf2]; rw [← HF.out, hE, if_neg (by rintro (e | e); exact h2 e; cases e)]⟩
            have HF2 : Hd (f2 = fr + bl l.runes + bl rs) := ⟨hf2⟩
            clear hE hf2
            go_wp2_with (go_at_call 16; refine (all_calls (t := l) (HAT.out.2.1.below HBW.out)).mono ?_; rintro e w1 ⟨rfl, hb⟩; simp only [cnt_b, Cn.v_eq]; have hg1 := HAT.out.1.below (HBW.out.trans (hb.mono HBW.out.size)) HAT.out.1.lt; obtain ⟨c0, c1, -, -, -, -, -, -, -, c9, c10, -⟩ := nodeV_cell hg1; rw [cnt_b] at c1; have lt := hg1.lt; rw [RT.ptr_node] at c10; simp only [RT.ptr] at c9; have HB := Hd.mk hb; clear hb hg1)
            go_roundg (RT.node g2 rs2 l2 r2).nodes.length
            case rel => exact ⟨HBW.out.trans (HB.out.mono HBW.out.size), .node g2 rs2 l2 r2, f2, rfl, by congr 1; have := HF2.out; omega, HAT.out.2.2, HE.out, by have h1 := HSZ.out; have h2 := HF2.out; simp only [RT.runes_node, bl_append] at h1 ⊢; omega, Nat.le_refl _⟩
            case measure => have := HG.out; simp only [RT.nodes_node, List.length_append, List.length_cons] at this ⊢; omega
end Go.Proofs.Ytgokmldngnmmhaa
