/- ref.Gather. -/
import Derived.Test.YtdgdajnbkfmijaaGreatDoorMRoomMeets25
import Derived.Test.YtdgdajnbkfmijaaGreatDoorMRoomMeets35
namespace Go.Proofs.YtdgdajnbkfmijaaGreatDoor
open Go.RowKit
set_option maxRecDepth 100000
/-- What holds at a round's head: Gather's variables, the gaps' own. -/
structure GI (w w0 : World) (vp vd : Value) (v : Value) (s : GS) : Prop where
  ni : NI w (w0.heap.size + 1) v ⟨s.out, s.put, s.drop⟩
  box : Blk w w0.heap.size 234 #[vp, vd]
  bel : Below w0.heap.size w0 w
theorem GI.new (w : World) (vp vd : Value) : GI ((((w.alloc (.cells #[vp, vd] 234)).alloc (.cells #[.slice none 0 0] 36)).alloc (.cells #[.string ⟨#[]⟩] 9)).alloc (.cells #[.int .i64 0] 3)) w vp vd (.slice none 0 0) .zero := by
  refine ⟨?_, (((Blk.new _ _ _).alloc _).alloc _).alloc _, ex_alloc (ex_alloc (ex_alloc (ex_alloc (Below.refl _ _) _) _) _) _⟩
  have := NI.new (w.alloc (.cells #[vp, vd] 234))
  rwa [World.size_alloc] at this
/-- Behind an append of a part that keeps. -/
theorem GI.more {w w0 w1 : World} {vp vd v v1 : Value} {s : GS} {k : Int} {N : Nat} (h : GI w w0 vp vd v s) (hN : s.out.length = N) (ho : w1.ownsRow (w0.heap.size + 1 + 3) 113 3 v1 (N + 1) (opv s.out ++ (#[Value.int .i64 k, .int .i64 0, .string ⟨#[]⟩] : Array Value).toList))
    (hb : Below (w0.heap.size + 1 + 3) w w1) : GI (w1.setCell ⟨w0.heap.size + 1, 0, none⟩ v1) w0 vp vd v1 ⟨s.out ++ [⟨k, 0, []⟩], s.put, s.drop, 0⟩ := by
  subst hN
  obtain ⟨⟨h1, h2, h3, h4⟩, h5, h6⟩ := h
  refine ⟨⟨(h1.below hb (by omega)).put1, (h2.below hb (by omega)).far (p := ⟨w0.heap.size + 1, 0, none⟩) (by simp) _, (h3.below hb (by omega)).far (p := ⟨w0.heap.size + 1, 0, none⟩) (by simp; omega) _, ?_⟩,
    (h5.below hb (by omega)).far (p := ⟨w0.heap.size + 1, 0, none⟩) (by simp) _, (h6.trans (hb.mono (by omega))).setCell (show w0.heap.size ≤ w0.heap.size + 1 by omega) _⟩
  have := ownsRow_setCell_other ho (a := ⟨w0.heap.size + 1, 0, none⟩) (fun e => by have := (ho.lt _ e).1; simp at this; omega) v1
  dsimp only
  rw [opv_append, opv_one, List.length_append]
  exact this
section
attribute [local go_sem] add_mk str_append
end
end Go.Proofs.YtdgdajnbkfmijaaGreatDoor
