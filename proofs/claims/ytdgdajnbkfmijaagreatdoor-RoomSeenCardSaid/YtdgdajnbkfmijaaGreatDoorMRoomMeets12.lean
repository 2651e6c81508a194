/- Several texts of the proof, one behind the other: RopeD, RopeE, RopeF. -/
import Derived.Test.YtdgdajnbkfmijaaGreatDoorMRoomMeets10
import Derived.Deep.LoopGhost
import Derived.BigRegion
/- take. -/
namespace Go.Proofs.YtdgdajnbkfmijaaGreatDoor
open Go.RowKit
set_option maxRecDepth 100000
theorem Ap.less {t u : RT} (h : Ap t) (hs : u.blocks.Sublist t.blocks) (hr : u.runes.length ≤ t.runes.length) : Ap u :=
  ⟨h.nodup.sublist hs, h.sm.le hr (by have := hs.length_le; rwa [RT.len_blocks, RT.len_blocks] at this)⟩
attribute [local go_sem] Cn.v_eq field_cn
end Go.Proofs.YtdgdajnbkfmijaaGreatDoor
/- find, edge, Counts. -/
namespace Go.Proofs.YtdgdajnbkfmijaaGreatDoor
open Go.RowKit
set_option maxRecDepth 100000
/-- A document in memory. -/
structure AtR (w : World) (p : Nat) (t : RT) : Prop where
  blk : Blk w p 163 #[t.ptr]
  tree : AtT w t
  out : p ∉ t.blocks
theorem AtR.below {w w' : World} {p : Nat} {t : RT} (h : AtR w p t) (hb : Below w.heap.size w w') : AtR w' p t := ⟨h.blk.below hb h.blk.lt, h.tree.below hb, h.out⟩
/-- A tree as the rope's functions leave it. -/
structure Good (t : RT) : Prop where
  nodup : t.blocks.Nodup
  ne : Ne t.chunks
  le : ∀ c ∈ t.chunks, bl c ≤ 32
  all : U.AllR t.runes
  bal : t.Bal
  sz : bl t.runes ≤ 8000
theorem ne_len {cs : List (List Int)} (h : Ne cs) : cs.length ≤ cs.flatten.length := by
  induction cs with
  | nil => simp
  | cons c cs ih =>
    have := ih h.tl
    have := List.length_pos_iff.2 h.hd
    simp only [List.length_cons, List.flatten_cons, List.length_append]; omega
theorem Good.sm {t : RT} (h : Good t) : Sm t.runes t.nodes.length := by
  have h1 := bl_len t.runes
  have h2 := ne_len h.ne
  have h3 := h.sz
  rw [RT.len_chunks, ← RT.runes_chunks] at h2
  exact ⟨by omega, by omega⟩
theorem Good.ap {t : RT} (h : Good t) : Ap t := ⟨h.nodup, h.sm⟩
attribute [local go_sem] Cn.v_eq field_cn cnt_b
end Go.Proofs.YtdgdajnbkfmijaaGreatDoor
/- Counts, edge. -/
namespace Go.Proofs.YtdgdajnbkfmijaaGreatDoor
open Go.RowKit
set_option maxRecDepth 100000
attribute [local go_sem] Cn.v_eq
theorem counts_calls {p : Nat} {t : RT} {w : World} (h : AtR w p t) :
    Calls Tryz.prog 75 #[.pointer (some ⟨p, 0, none⟩)] w fun e w' => e = .returned (cnt t.runes).v ∧ Below w.heap.size w w' := by
  have HT := Hd.mk h.tree
  have c0 := h.blk.cell 0
  have lt := h.blk.lt
  simp only [List.getElem?_toArray, List.getElem?_cons_zero, RT.ptr] at c0
  clear h
  go_enter Tryz.func75, Tryz.ntmps75
  go_wp2_with (go_at_call 108; refine (all_calls (t := t) (HT.out.below (ex_alloc (Below.refl _ _) _))).mono ?_; rintro e w1 ⟨rfl, hb⟩; generalize hcc : cnt t.runes = c; have HCC := Hd.mk hcc; clear hcc; have hc : CnBlk w1 w.heap.size Cn.zero := CnBlk.below (heap_alloc_new w _) hb (by simp); obtain ⟨q0, q1, q2, q3⟩ := hc.cells; have qf := hc.frozen; have ql := hc.lt; have HC := Hd.mk hc; have HB := Hd.mk hb; clear hb hc)
  refine HC.out.set4 (F := fun W => bodyPost _ _ _ Exit.ret _ W) (y := c) ?_
  intro w3 hC3 hB3 hs3 hf3
  obtain ⟨g0, g1, g2, g3⟩ := hC3.cells
  refine bodyPost_ret (v := c.v) (by simp [results, Tryz.results75, go_sem, g0, g1, g2, g3]) rfl ?_
  exact ⟨by rw [HCC.out], ((ex_alloc (Below.refl _ _) _).trans (HB.out.mono (by simp))).trans (hB3 _ (Nat.le_refl _))⟩
attribute [local go_sem] field_cn cnt_b
theorem byte_at {s : U.Bs} {j : Nat} (h : j < s.length) (hh) : (ByteArray.mk s.toArray)[j]'hh = s.getD j 0 := by
  have : (ByteArray.mk s.toArray)[j]'hh = s[j] := rfl
  rw [this]; simp [h]
end Go.Proofs.YtdgdajnbkfmijaaGreatDoor
