/- ref.Spread. -/
import Derived.Test.YtdgdajnbkfmijaaGreatDoorMRoomMeets1
import Derived.Test.YtdgdajnbkfmijaaGreatDoorMRoomMeets22
import Derived.Laws.MakeOwn
import Derived.RegionTactic
import Derived.Deep.DeepCutAuto
namespace Go.Proofs.YtdgdajnbkfmijaaGreatDoor
open Go.RowKit
set_option maxRecDepth 100000
def strs (l : List U.Bs) : List Value := l.map fun b => .string ⟨b.toArray⟩
def bools (l : List Bool) : List Value := l.map .bool
/-- The two arrays of gaps as far as they are laid, and their variable. -/
structure GB (w : World) (gG gP gD N : Nat) (P : List U.Bs) (D : List Bool) : Prop where
  G : Blk w gG 234 #[.slice (some ⟨gP, 0, none⟩) (N + 1) (N + 1), .slice (some ⟨gD, 0, none⟩) N N]
  P : Blk w gP 9 (strs P).toArray
  D : Blk w gD 4 (bools D).toArray
theorem Blk.ty {w : World} {g : Nat} {t t' : TypeId} {cs cs' : Array Value} (h : Blk w g t cs) (h' : Blk w g t' cs') : t = t' := by
  unfold Blk at h h'
  rw [h] at h'
  simp at h'
  exact h'.2
section
variable {w w' : World} {gG gP gD N : Nat} {P : List U.Bs} {D : List Bool}
theorem GB.ne (h : GB w gG gP gD N P D) : gG ≠ gP ∧ gG ≠ gD ∧ gP ≠ gD := by
  refine ⟨?_, ?_, ?_⟩
  · rintro rfl; exact absurd (h.G.ty h.P) (by decide)
  · rintro rfl; exact absurd (h.G.ty h.D) (by decide)
  · rintro rfl; exact absurd (h.P.ty h.D) (by decide)
theorem GB.alloc (h : GB w gG gP gD N P D) (o : Obj) : GB (w.alloc o) gG gP gD N P D := ⟨h.G.alloc o, h.P.alloc o, h.D.alloc o⟩
theorem GB.drew (h : GB w gG gP gD N P D) : GB w.drew gG gP gD N P D := ⟨h.G, h.P, h.D⟩
theorem strs_set (l : List U.Bs) (i : Nat) (b : U.Bs) : (strs l).toArray.setIfInBounds i (.string ⟨b.toArray⟩) = (strs (l.set i b)).toArray := by
  apply Array.ext'
  simp [strs, List.map_set]
theorem bools_set (l : List Bool) (i : Nat) (b : Bool) : (bools l).toArray.setIfInBounds i (.bool b) = (bools (l.set i b)).toArray := by
  apply Array.ext'
  simp [bools, List.map_set]
theorem GB.setP (h : GB w gG gP gD N P D) (i : Nat) (b : U.Bs) : GB (w.setCell ⟨gP, i, none⟩ (.string ⟨b.toArray⟩)) gG gP gD N (P.set i b) D := by
  obtain ⟨n1, n2, n3⟩ := h.ne
  refine ⟨h.G.far (p := ⟨gP, i, none⟩) n1 _, ?_, h.D.far (p := ⟨gP, i, none⟩) (Ne.symm n3) _⟩
  rw [← strs_set]; exact h.P.set_ i _
theorem GB.setD (h : GB w gG gP gD N P D) (i : Nat) (b : Bool) : GB (w.setCell ⟨gD, i, none⟩ (.bool b)) gG gP gD N P (D.set i b) := by
  obtain ⟨n1, n2, n3⟩ := h.ne
  refine ⟨h.G.far (p := ⟨gD, i, none⟩) n2 _, h.P.far (p := ⟨gD, i, none⟩) n3 _, ?_⟩
  rw [← bools_set]; exact h.D.set_ i _
theorem GB.cells (h : GB w gG gP gD N P D) : w.cell? ⟨gG, 0, none⟩ = some (.slice (some ⟨gP, 0, none⟩) (N + 1) (N + 1)) ∧ w.cell? ⟨gG, 1, none⟩ = some (.slice (some ⟨gD, 0, none⟩) N N) := by
  have c0 := h.G.cell 0
  have c1 := h.G.cell 1
  simp only [List.getElem?_toArray, List.getElem?_cons_zero, List.getElem?_cons_succ] at c0 c1
  exact ⟨c0, c1⟩
end
section
variable {S : SS} {N m : Nat}
theorem SS.take_take (x : Bool) (a b : Nat) : SS.take x b (SS.take x a S) = SS.take x (a + b) S := by
  induction a generalizing S with
  | zero => simp [SS.take]
  | succ a ih => rw [SS.take, ih, Nat.add_right_comm, SS.take]
end
section
attribute [local go_sem] add_mk str_append
end
end Go.Proofs.YtdgdajnbkfmijaaGreatDoor
