/- An argument Spot, as it is laid. -/
import Derived.Test.YtgokmldngnmmhaaDoorRows
import Derived.Test.YtgokmldngnmmhaaDoorMPosConverts6
import Derived.Lib.SmallJoins
namespace Go.Proofs.YtgokmldngnmmhaaDoor
open Go.ChangeShapes Go.WideShapes Go.ChangeAt Go.RowKit Go.Joins Go.Deep
theorem spCells : Tryd.prog.cellsOf 91 = 2 := by kernel_rfl
set_option maxRecDepth 100000 in
theorem spStruct : ∃ f0 f1, Tryd.prog.underlying 91 = some (.struct #[f0, f1]) ∧ oneCellFields Tryd.prog #[f0, f1] = true ∧ f0.type = 3 ∧ f1.type = 3 :=
  ⟨_, _, Tryd.underlying91, by kernel_rfl, rfl, rfl⟩
set_option maxRecDepth 100000 in
theorem open_spot {H : Type} {enc : TypeId × Value → H} {w : World} {base : Nat} {spare : Nat → Bool} {held : Bool} {r : Reach} {b0 : Nat} {v : Value} {d : DataW H} {p : List MemPlace}
    (hv : Value.okWide Tryd.prog w r b0 91 v) (h : DataW.Trod enc Tryd.prog w base spare held 91 v d p) : ∃ a b : Int, v = .agg #[.int .i64 a, .int .i64 b] := by
  obtain ⟨f0, f1, hs, hone, t0, t1⟩ := spStruct
  obtain ⟨c0, c1, y0, y1, n, rfl, _, _, h0, h1⟩ := open_agg2 hs hone spCells hv h
  rw [t0] at h0; rw [t1] at h1
  obtain ⟨a, e0, _, _⟩ := DataW.trod_int Tryd.underlying3 h0
  obtain ⟨b, e1, _, _⟩ := DataW.trod_int Tryd.underlying3 h1
  simp at e0 e1
  subst e0 e1
  exact ⟨a, b, rfl⟩
end Go.Proofs.YtgokmldngnmmhaaDoor
