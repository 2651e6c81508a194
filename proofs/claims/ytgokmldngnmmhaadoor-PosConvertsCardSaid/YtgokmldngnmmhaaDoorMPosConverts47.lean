/- Small laws for RopePlays. -/
import Derived.Test.YtgokmldngnmmhaaDoorMPosConverts42
import Derived.Test.YtgokmldngnmmhaaDoorMPosConverts25
import Derived.Test.YtgokmldngnmmhaaDoorMPosConverts36
namespace Go.Proofs.YtgokmldngnmmhaaDoor
open Go.RowKit
set_option maxRecDepth 100000
theorem errV_erV (w : World) (k : Int) : ErrV w (erV k) k (-1) := by
  unfold erV
  split
  · rename_i h; subst h; exact .nil
  · exact .no k
theorem flat_le {cs : List (List Int)} (h : ∀ c ∈ cs, bl c ≤ 32) : cb cs ≤ 32 * cs.length := by
  induction cs with
  | nil => simp
  | cons c cs ih =>
    have h1 := h c (by simp)
    have h2 := ih fun x hx => h x (List.mem_cons_of_mem _ hx)
    rw [cb_cons, List.length_cons]; omega
theorem Good.many {t : RT} (h : Good t) : t.nodes.length ≤ bl t.runes ∧ bl t.runes ≤ 32 * t.nodes.length := by
  have h1 := ne_len h.ne
  have h2 := flat_le h.le
  have h3 := bl_len t.runes
  rw [cb_runes, RT.len_chunks] at h2
  rw [RT.len_chunks, ← RT.runes_chunks] at h1
  exact ⟨by omega, h2⟩
/-- The rope and all that its loop keeps. -/
structure RpI (w wr : World) (p : Nat) (t : RT) : Prop where
  at_ : AtR wr p t
  good : Good t
  below : Below w.heap.size w wr
  hp : w.heap.size ≤ p
  hb : ∀ i ∈ t.blocks, w.heap.size ≤ i
theorem RpI.then_below {w wr w2 : World} {p : Nat} {t : RT} (h : RpI w wr p t) (hb : Below wr.heap.size wr w2) : RpI w w2 p t :=
  ⟨h.at_.below hb, h.good, bstep h.below hb, h.hp, h.hb⟩
theorem RpI.splice {w w3 w5 : World} {p : Nat} {t t5 : RT} {R' : List Int} (h : RpI w w3 p t) (hs : SplW w3 w5 p t t5 R') : RpI w w5 p t5 :=
  ⟨hs.at_, hs.good, h.below.trans (hs.only.below h.below.size (fun k hk e => by
    rcases e with rfl | e
    · have := h.hp; omega
    · have := h.hb k e; omega)), h.hp, fun i hi => by
    rcases hs.sub i hi with e | e
    · exact h.hb i e
    · have := h.below.size; omega⟩
theorem blk_split {w3 w5 : World} {g p : Nat} {t t5 : RT} {R' : List Int} {ty : TypeId} {cs : Array Value} (hz : Blk w3 g ty cs) (hs : SplW w3 w5 p t t5 R') (hp : p ≠ g ∧ g ∉ t.blocks) : Blk w5 g ty cs := by
  refine hz.only hs.only (fun e => ?_)
  rcases e with e | e
  · exact hp.1 e.symm
  · exact hp.2 e
theorem flt_cells {w : World} {g : Nat} {x y : Value} (h : Blk w g 25 #[x, y]) : w.cell? ⟨g, 0, none⟩ = some x ∧ w.cell? ⟨g, 1, none⟩ = some y := by
  have z0 := h.cell 0
  have z1 := h.cell 1
  simp only [List.getElem?_toArray, List.getElem?_cons_zero, List.getElem?_cons_succ] at z0 z1
  exact ⟨z0, z1⟩
end Go.Proofs.YtgokmldngnmmhaaDoor
