/- Laws for a small map literal with int keys, in the block that was made last: an insert of a new key, and a look-up. Over any program. -/
import Derived.WalkKit
import Derived.WideLaws
import Derived.MapKept
namespace Go.Proofs.YtgokmldngnmmhaaDoor
section
open Go.Instr
variable {P : Program}
theorem checkKey_int {K : TypeId} {k : IntKind} (hK : P.underlying K = some (.int k)) (b : Bool) (n : Int) (w : World) :
    (checkKey b 10000 K (.int k n)).run P w = .ok () w := by
  show (checkKey b (9999 + 1) K (.int k n)).run P w = .ok () w
  unfold checkKey
  simp only [Sem.run_bind, run_underlying hK, Result.andThen]
  rfl
theorem findKey_int {K : TypeId} {k : IntKind} (hK : P.underlying K = some (.int k)) (n : Int) (es : List MapEntry) (r : Option (Nat × Value)) (h : findNow (.int k) (.int k n) es 0 = some r) (w : World) :
    (findKey K (.int k n) es).run P w = .ok r w := by
  simp [findKey, run_underlying hK, Result.andThen, h]
theorem set_push_last {α : Type} (a : Array α) (x y : α) (h : a.size < (a.push x).size) : (a.push x).set a.size y h = a.push y := by
  apply Array.ext
  · simp
  · intro i h1 h2
    simp only [Array.getElem_set, Array.getElem_push]
    by_cases e : a.size = i
    · subst e; simp
    · have h3 : i < a.size := by simp at h2; omega
      simp [e, h3]
theorem run_insert_last {t K E : TypeId} {k : IntKind} (ht : P.underlying t = some (.map K E)) (hK : P.underlying K = some (.int k)) (w : World) (es : Array MapEntry) (c : Nat) (n : Int) (v : Value)
    (hn : findNow (.int k) (.int k n) es.toList 0 = some none) :
    (mapUpdate t (.map (some w.heap.size)) (.int k n) v).run P (w.alloc (.map es c)) = .ok () (w.alloc (.map (es.push { key := .int k n, val := v, born := c }) (c + 1))) := by
  have hb : (w.alloc (.map es c)).heap[w.heap.size]? = some (.map es c) := heap_alloc_new w _
  simp [mapUpdate, run_underlying ht, MapKept.run_getObj_map hb, checkKey_int hK, findKey_int hK n es.toList none hn, MapKept.run_setObj_map _ hb, Result.andThen]
  have e : (w.alloc (.map es c)).heap.setIfInBounds w.heap.size (.map (es.push { key := .int k n, val := v, born := c }) (c + 1)) = w.heap.push (.map (es.push { key := .int k n, val := v, born := c }) (c + 1)) := by
    show (w.heap.push (.map es c)).setIfInBounds w.heap.size _ = _
    unfold Array.setIfInBounds
    rw [dif_pos (by simp), set_push_last]
  rw [e]
  rfl
theorem run_lookup_last {t K E : TypeId} {k : IntKind} (ht : P.underlying t = some (.map K E)) (hK : P.underlying K = some (.int k)) (w : World) (es : Array MapEntry) (c : Nat) (n : Int) (i : Nat) (v : Value)
    (hn : findNow (.int k) (.int k n) es.toList 0 = some (some (i, v))) :
    (lookup t (.map (some w.heap.size)) (.int k n) false).run P (w.alloc (.map es c)) = .ok v (w.alloc (.map es c)) := by
  have hb : (w.alloc (.map es c)).heap[w.heap.size]? = some (.map es c) := heap_alloc_new w _
  simp [lookup, run_underlying ht, MapKept.run_getObj_map hb, checkKey_int hK, findKey_int hK n es.toList _ hn, Result.andThen]
theorem run_lookup_last_none {t K E : TypeId} {k : IntKind} (ht : P.underlying t = some (.map K E)) (hK : P.underlying K = some (.int k)) (w : World) (es : Array MapEntry) (c : Nat) (n : Int) (z : Value)
    (hz : ∀ w : World, (zeroValue E).run P w = .ok z w)
    (hn : findNow (.int k) (.int k n) es.toList 0 = some none) :
    (lookup t (.map (some w.heap.size)) (.int k n) false).run P (w.alloc (.map es c)) = .ok z (w.alloc (.map es c)) := by
  have hb : (w.alloc (.map es c)).heap[w.heap.size]? = some (.map es c) := heap_alloc_new w _
  simp [lookup, run_underlying ht, MapKept.run_getObj_map hb, checkKey_int hK, findKey_int hK n es.toList _ hn, hz, Result.andThen]
end
end Go.Proofs.YtgokmldngnmmhaaDoor
