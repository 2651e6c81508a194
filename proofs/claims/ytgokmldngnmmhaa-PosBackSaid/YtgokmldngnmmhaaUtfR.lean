/- Walks of utf.Runes and utf.Count. -/
import Derived.Test.YtgokmldngnmmhaaUtfC
import Derived.Test.YtgokmldngnmmhaaUtfS
import Derived.Test.YtgokmldngnmmhaaSliceL
import Derived.Test.YtgokmldngnmmhaaExt
import Derived.Deep.RegionHeld3
import Derived.Deep.DrawnRows
namespace Go.Proofs.Ytgokmldngnmmhaa
open Go.RowKit
set_option maxRecDepth 100000
theorem ext_drop (s : U.Bs) (k : Nat) : (ByteArray.mk s.toArray).extract k s.length = ⟨(s.drop k).toArray⟩ := by
  have : (s.drop k).length ≤ s.length - k := by rw [List.length_drop]; exact Nat.le_refl _
  simp [ByteArray.extract, ByteArray.copySlice, List.take_of_length_le this]
theorem next_at {s : U.Bs} {r : Int} {n : Nat} (h : U.next s = (r, n)) (w : World) (hl : s.length ≤ 140737488351232) :
    Calls Try.prog 29 #[.string ⟨s.toArray⟩] w fun e w' => e = .returned (.tuple #[.int .i32 r, .int .i64 n]) ∧ w = w' := by
  have := next_calls s w hl
  unfold NextV at this
  rw [h] at this
  exact this
/-- An *api.At that lies in a block of its own. -/
def AtBlk (w : World) (g : Nat) (e p : Int) : Prop := w.heap[g]? = some (.cells #[.int .i64 e, .int .i64 p] 76 (0, 0))
theorem AtBlk.below {w w' : World} {g : Nat} {e p : Int} (h : AtBlk w g e p) (hb : Below w.heap.size w w') : AtBlk w' g e p :=
  (hb.block g (Array.getElem?_eq_some_iff.1 h).1).trans h
abbrev atV (g : Nat) : Value := .iface 74 (.pointer (some ⟨g, 0, none⟩))
def i32s (l : List Int) : List Value := l.map (.int .i32)
theorem i32s_one (l : List Int) : ∀ u ∈ i32s l, u.oneCell' = true := by
  intro u hu
  obtain ⟨r, _, rfl⟩ := List.mem_map.1 hu
  rfl
def RunesPost (_s : U.Bs) (rs : List Int) (rest : U.Bs) (w : World) (e : Ending) (w' : World) : Prop :=
  Below w.heap.size w w' ∧ (rest = [] → ∃ v, e = .returned (.tuple #[v, .nilIface]) ∧ Sl w' 1 v rs.length (i32s rs)) ∧
    (rest ≠ [] → ∃ g, e = .returned (.tuple #[.slice none 0 0, atV g]) ∧ AtBlk w' g 3 (U.off rs rs.length))
section
attribute [local go_sem] ext_drop
end
end Go.Proofs.Ytgokmldngnmmhaa
