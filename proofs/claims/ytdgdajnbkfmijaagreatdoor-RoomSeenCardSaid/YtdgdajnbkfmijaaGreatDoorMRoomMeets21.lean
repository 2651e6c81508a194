/- Several texts of the proof, one behind the other: RopeX, PosC. -/
import Derived.Test.YtdgdajnbkfmijaaGreatDoorMRoomMeets19
import Derived.Sort.CutIn
import Derived.Stop.RegionWithIn
/- Line. -/
namespace Go.Proofs.YtdgdajnbkfmijaaGreatDoor
open Go.RowKit Go.Shelf Go.Sort
set_option maxRecDepth 100000
section
variable {n : Nat} {P : Program} {ops : Array Oper} {md : Region.Mode} {Q : Exit → Act → World → Prop} {l : Nat}
end
structure LnT (w wr : World) (n : Int) : Prop where
  bn : Blk wr w.heap.size 3 #[.int .i64 n]
  r0 : CnBlk wr (w.heap.size + 1) Cn.zero
  r1 : Blk wr (w.heap.size + 1 + 1) 25 #[.nilIface]
  below : Below w.heap.size w wr
theorem LnT.then_below {w wr w2 : World} {n : Int} (h : LnT w wr n) (hb : Below wr.heap.size wr w2) : LnT w w2 n :=
  ⟨h.bn.below hb h.bn.lt, h.r0.below hb h.r0.lt, h.r1.below hb h.r1.lt, bstep h.below hb⟩
structure LnS (w wr : World) (z : Nat) (n : Int) (c : Cn) : Prop where
  t : LnT w wr n
  bc : CnBlk wr z c
  hz : w.heap.size + 3 ≤ z
theorem LnS.then_below {w wr w2 : World} {z : Nat} {n : Int} {c : Cn} (h : LnS w wr z n c) (hb : Below wr.heap.size wr w2) : LnS w w2 z n c := ⟨h.t.then_below hb, h.bc.below hb h.bc.lt, h.hz⟩
theorem LnS.belowB {w wr w2 : World} {z b : Nat} {n : Int} {c : Cn} (h : LnS w wr z n c) (hb : Below b wr w2) (hz : z < b) : LnS w w2 z n c := by
  have := h.hz
  exact ⟨⟨h.t.bn.below hb (by omega), h.t.r0.below hb (by omega), h.t.r1.below hb (by omega), h.t.below.trans (hb.mono (by omega))⟩, h.bc.below hb hz, h.hz⟩
theorem LnS.set_c {w wr : World} {z : Nat} {n : Int} {c c' : Cn} (h : LnS w wr z n c) :
    LnS w ((((wr.setCell ⟨z, 0, none⟩ (.int .i64 c'.b)).setCell ⟨z, 1, none⟩ (.int .i64 c'.h)).setCell ⟨z, 2, none⟩ (.int .i64 c'.r)).setCell ⟨z, 3, none⟩ (.int .i64 c'.l)) z n c' := by
  obtain ⟨h1, h2, h3⟩ := cn_set (y := c') h.bc
  have hz := h.hz
  exact ⟨⟨(h3 _ (by omega)).trans h.t.bn, (h3 _ (by omega)).trans h.t.r0, (h3 _ (by omega)).trans h.t.r1, h.t.below.trans (h2 _ (by omega))⟩, h1, hz⟩
structure LnL (w wr : World) (z y : Nat) (n : Int) (c cl : Cn) : Prop where
  s : LnS w wr z n c
  by_ : CnBlk wr y cl
  zy : z < y
theorem LnL.then_below {w wr w2 : World} {z y : Nat} {n : Int} {c cl : Cn} (h : LnL w wr z y n c cl) (hb : Below wr.heap.size wr w2) : LnL w w2 z y n c cl := ⟨h.s.then_below hb, h.by_.below hb h.by_.lt, h.zy⟩
theorem LnL.drew {w wr : World} {z y : Nat} {n : Int} {c cl : Cn} (h : LnL w wr z y n c cl) : LnL w wr.drew z y n c cl := h.then_below (ex_drew (Below.refl _ _))
attribute [local go_sem] Oper.semAt_some Cn.v_eq field_cn3
end Go.Proofs.YtdgdajnbkfmijaaGreatDoor
/- pos.Convert, pos.Spot, pos.Place. -/
namespace Go.Proofs.YtdgdajnbkfmijaaGreatDoor
open Go.RowKit
set_option maxRecDepth 100000
theorem Pl.l {u at_ : Int} {R : List Int} {c : Cn} (h : Pl u at_ R c) : 0 ≤ c.l ∧ c.l ≤ (cnt R).l := by
  obtain ⟨p, q, rfl, -, rfl⟩ := h
  rw [cnt_app_l]
  have := l_nn p
  have := l_nn q
  omega
theorem Pl.of_le {u at_ : Int} {R : List Int} {c : Cn} (h : Pl u at_ R c) (hR : R.length ≤ 8000) (v : Int) : 0 ≤ c.of v ∧ c.of v ≤ 32000 := by
  obtain ⟨p, q, rfl, -, rfl⟩ := h
  simp only [List.length_append] at hR
  exact ⟨of_nn _ _, by have := Go.Proofs.YtdgdajnbkfmijaaGreatDoor.of_le (rs := p) (n := 8000) (by omega) v; omega⟩
theorem Ln.of_le {n : Int} {R : List Int} {c : Cn} (h : Ln n R c) (hR : R.length ≤ 8000) (v : Int) : 0 ≤ c.of v ∧ c.of v ≤ 32000 := by
  obtain ⟨p, q, rfl, -, rfl, -⟩ := h
  simp only [List.length_append] at hR
  exact ⟨of_nn _ _, by have := Go.Proofs.YtdgdajnbkfmijaaGreatDoor.of_le (rs := p) (n := 8000) (by omega) v; omega⟩
attribute [local go_sem] Cn.v_eq
end Go.Proofs.YtdgdajnbkfmijaaGreatDoor
