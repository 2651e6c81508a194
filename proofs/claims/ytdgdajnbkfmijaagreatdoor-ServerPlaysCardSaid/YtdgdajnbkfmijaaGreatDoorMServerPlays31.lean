/- Several texts of the proof, one behind the other: RopeD, RopeE, RopeF. -/
import Derived.Test.YtdgdajnbkfmijaaGreatDoorMServerPlays30
import Derived.Deep.LoopGhost
import Derived.BigRegion
import Derived.Test.YtdgdajnbkfmijaaGreatDoorMServerPlays22
/- take. -/
namespace Go.Proofs.YtdgdajnbkfmijaaGreatDoor
open Go.RowKit
set_option maxRecDepth 100000
theorem Ap.less {t u : RT} (h : Ap t) (hs : u.blocks.Sublist t.blocks) (hr : u.runes.length ≤ t.runes.length) : Ap u :=
  ⟨h.nodup.sublist hs, h.sm.le hr (by have := hs.length_le; rwa [RT.len_blocks, RT.len_blocks] at this)⟩
theorem runes_len (t : RT) : t.runes.length = t.chunks.flatten.length := by rw [RT.runes_chunks]
theorem take_len {t : RT} {k : Nat} (hne : Ne t.chunks) (hk : ∃ a c b, t.chunks = a ++ c :: b ∧ cb a = k) : (t.takeT k).runes.length ≤ t.runes.length := by
  obtain ⟨a, c, b, h, hk⟩ := hk
  rw [runes_len, RT.takeT_chunks hne h hk, runes_len, h]
  simp
theorem take_first_len {t : RT} (hne : Ne t.chunks) (h : t ≠ .nil) : (t.first ++ (t.takeT 0).runes).length = t.runes.length := by
  obtain ⟨b, e⟩ := RT.first_chunks h
  have := RT.takeT_chunks (a := []) (k := 0) hne e rfl
  rw [List.length_append, runes_len, this, runes_len, e]
  simp
/-- Which part the chunk lies in. -/
theorem take_split {l r : List (List Int)} {rs : List Int} {k : Nat} (hne : Ne (l ++ rs :: r)) (hk : ∃ a c b, l ++ rs :: r = a ++ c :: b ∧ cb a = k) :
    (k < cb l ∧ ∃ a c b, l = a ++ c :: b ∧ cb a = k) ∨ k = cb l ∨ (cb l + bl rs ≤ k ∧ ∃ a c b, r = a ++ c :: b ∧ cb a = k - cb l - bl rs) := by
  obtain ⟨a, c, b, h, hk⟩ := hk
  rcases split3 h with ⟨d, h1, h2⟩ | ⟨d, rfl, h2⟩
  · cases d with
    | nil => right; left; simp at h1; rw [h1, hk]
    | cons y d =>
      left
      simp only [List.cons_append, List.cons.injEq] at h2
      obtain ⟨rfl, -⟩ := h2
      have : 0 < bl c := bl_pos (hne c (by rw [h1]; simp))
      exact ⟨by rw [h1, cb_append, cb_cons]; omega, a, c, d, h1, hk⟩
  · right; right
    rw [cb_append, cb_cons] at hk
    exact ⟨by omega, d, c, b, h2, by omega⟩
def spine : RT → Nat
  | .nil => 0
  | .node _ _ l _ => 1 + spine l
theorem first_node {g : Nat} {rs : List Int} {l r : RT} (h : l ≠ .nil) : (RT.node g rs l r).first = l.first := by
  show (if l.isNil = true then rs else l.first) = _
  rw [if_neg (fun e => h (RT.isNil_iff.1 e))]
theorem node_fst {w : World} {g : Nat} {rs rs' : List Int} {all : Cn} {l r : Value} {h : Int} (hb : Blk w g 189 (nodeV rs all l r h)) :
    Blk (((((w.setCell ⟨g, 0, none⟩ (.string ⟨(U.encs rs').toArray⟩)).setCell ⟨g, 1, none⟩ (.int .i64 (cnt rs').b)).setCell ⟨g, 2, none⟩ (.int .i64 (cnt rs').h)).setCell ⟨g, 3, none⟩ (.int .i64 (cnt rs').r)).setCell ⟨g, 4, none⟩ (.int .i64 (cnt rs').l)) g 189 (nodeV rs' all l r h) :=
  ((((hb.set_ 0 _).set_ 1 _).set_ 2 _).set_ 3 _).set_ 4 _
attribute [local go_sem] Cn.v_eq field_cn
end Go.Proofs.YtdgdajnbkfmijaaGreatDoor
/- find, edge, Counts. -/
namespace Go.Proofs.YtdgdajnbkfmijaaGreatDoor
open Go.RowKit
set_option maxRecDepth 100000
/-- A document in memory. -/
structure AtR (w : World) (p : Nat) (t : RT) : Prop where
  blk : Blk w p 163 #[t.ptr]
  tree : AtT w t
  out : p ∉ t.blocks
theorem AtR.below {w w' : World} {p : Nat} {t : RT} (h : AtR w p t) (hb : Below w.heap.size w w') : AtR w' p t := ⟨h.blk.below hb h.blk.lt, h.tree.below hb, h.out⟩
/-- A tree as the rope's functions leave it. -/
structure Good (t : RT) : Prop where
  nodup : t.blocks.Nodup
  ne : Ne t.chunks
  le : ∀ c ∈ t.chunks, bl c ≤ 32
  all : U.AllR t.runes
  bal : t.Bal
  sz : bl t.runes ≤ 8000
theorem ne_len {cs : List (List Int)} (h : Ne cs) : cs.length ≤ cs.flatten.length := by
  induction cs with
  | nil => simp
  | cons c cs ih =>
    have := ih h.tl
    have := List.length_pos_iff.2 h.hd
    simp only [List.length_cons, List.flatten_cons, List.length_append]; omega
theorem Good.sm {t : RT} (h : Good t) : Sm t.runes t.nodes.length := by
  have h1 := bl_len t.runes
  have h2 := ne_len h.ne
  have h3 := h.sz
  rw [RT.len_chunks, ← RT.runes_chunks] at h2
  exact ⟨by omega, by omega⟩
theorem Good.ap {t : RT} (h : Good t) : Ap t := ⟨h.nodup, h.sm⟩
attribute [local go_sem] Cn.v_eq field_cn cnt_b
end Go.Proofs.YtdgdajnbkfmijaaGreatDoor
/- Counts, edge. -/
namespace Go.Proofs.YtdgdajnbkfmijaaGreatDoor
open Go.RowKit
set_option maxRecDepth 100000
attribute [local go_sem] Cn.v_eq
theorem counts_calls {p : Nat} {t : RT} {w : World} (h : AtR w p t) :
    Calls Tryz.prog 75 #[.pointer (some ⟨p, 0, none⟩)] w fun e w' => e = .returned (cnt t.runes).v ∧ Below w.heap.size w w' := by
  have HT := Hd.mk h.tree
  have c0 := h.blk.cell 0
  have lt := h.blk.lt
  simp only [List.getElem?_toArray, List.getElem?_cons_zero, RT.ptr] at c0
  clear h
  go_enter Tryz.func75, Tryz.ntmps75
  go_wp2_with (go_at_call 108; refine (all_calls (t := t) (HT.out.below (ex_alloc (Below.refl _ _) _))).mono ?_; rintro e w1 ⟨rfl, hb⟩; generalize hcc : cnt t.runes = c; have HCC := Hd.mk hcc; clear hcc; have hc : CnBlk w1 w.heap.size Cn.zero := CnBlk.below (heap_alloc_new w _) hb (by simp); obtain ⟨q0, q1, q2, q3⟩ := hc.cells; have qf := hc.frozen; have ql := hc.lt; have HC := Hd.mk hc; have HB := Hd.mk hb; clear hb hc)
  refine HC.out.set4 (F := fun W => bodyPost _ _ _ Exit.ret _ W) (y := c) ?_
  intro w3 hC3 hB3 hs3 hf3
  obtain ⟨g0, g1, g2, g3⟩ := hC3.cells
  refine bodyPost_ret (v := c.v) (by simp [results, Tryz.results75, go_sem, g0, g1, g2, g3]) rfl ?_
  exact ⟨by rw [HCC.out], ((ex_alloc (Below.refl _ _) _).trans (HB.out.mono (by simp))).trans (hB3 _ (Nat.le_refl _))⟩
attribute [local go_sem] field_cn cnt_b
theorem byte_at {s : U.Bs} {j : Nat} (h : j < s.length) (hh) : (ByteArray.mk s.toArray)[j]'hh = s.getD j 0 := by
  have : (ByteArray.mk s.toArray)[j]'hh = s[j] := rfl
  rw [this]; simp [h]
/-- The chunk that a place lies in has its byte. -/
theorem redg_chunk {t : RT} {a b : List (List Int)} {c : List Int} {k j : Nat} (h : t.chunks = a ++ c :: b) (hk : k = cb a + j) (hj : j < bl c) : redg (U.encs t.runes) k = !U.cont ((U.encs c).getD j 0) := by
  have e : U.encs t.runes = U.encs a.flatten ++ (U.encs c ++ U.encs b.flatten) := by
    rw [RT.runes_chunks, h, List.flatten_append, List.flatten_cons, U.encs_append, U.encs_append]
  have la : (U.encs a.flatten).length = cb a := rfl
  have lc : (U.encs c).length = bl c := rfl
  unfold redg
  rw [e, decide_eq_false (by simp only [List.length_append, la, lc]; omega)]
  rw [List.getD_eq_getElem?_getD, List.getElem?_append_right (by omega), la, hk, Nat.add_sub_cancel_left, List.getElem?_append_left (by omega), ← List.getD_eq_getElem?_getD, Bool.false_or]
end Go.Proofs.YtdgdajnbkfmijaaGreatDoor
