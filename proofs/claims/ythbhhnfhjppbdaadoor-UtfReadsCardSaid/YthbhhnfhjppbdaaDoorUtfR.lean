/- Walks of utf.Runes and utf.Count. -/
import Derived.Test.YthbhhnfhjppbdaaDoorUtfC
import Derived.Test.YthbhhnfhjppbdaaDoorUtfS
import Derived.Test.YthbhhnfhjppbdaaDoorSliceL
import Derived.Test.YthbhhnfhjppbdaaDoorExt
import Derived.Deep.RegionHeld3
import Derived.Deep.DrawnRows
namespace Go.Proofs.YthbhhnfhjppbdaaDoor
open Go.RowKit
set_option maxRecDepth 100000
theorem ext_drop (s : U.Bs) (k : Nat) : (ByteArray.mk s.toArray).extract k s.length = ⟨(s.drop k).toArray⟩ := by
  have : (s.drop k).length ≤ s.length - k := by rw [List.length_drop]; exact Nat.le_refl _
  simp [ByteArray.extract, ByteArray.copySlice, List.take_of_length_le this]
theorem next_at {s : U.Bs} {r : Int} {n : Nat} (h : U.next s = (r, n)) (w : World) (hl : s.length ≤ 140737488351232) :
    Calls Tryd.prog 51 #[.string ⟨s.toArray⟩] w fun e w' => e = .returned (.tuple #[.int .i32 r, .int .i64 n]) ∧ w = w' := by
  have := next_calls s w hl
  unfold NextV at this
  rw [h] at this
  exact this
/-- An *api.At that lies in a block of its own. -/
def AtBlk (w : World) (g : Nat) (e p : Int) : Prop := w.heap[g]? = some (.cells #[.int .i64 e, .int .i64 p] 108 (0, 0))
theorem AtBlk.below {w w' : World} {g : Nat} {e p : Int} (h : AtBlk w g e p) (hb : Below w.heap.size w w') : AtBlk w' g e p :=
  (hb.block g (Array.getElem?_eq_some_iff.1 h).1).trans h
abbrev atV (g : Nat) : Value := .iface 107 (.pointer (some ⟨g, 0, none⟩))
theorem el_i32 : El Tryd.prog 37 21 1 4 := El.mk' Tryd.underlying37 (by kernel_rfl) (by decide)
def i32s (l : List Int) : List Value := l.map (.int .i32)
theorem i32s_one (l : List Int) : ∀ u ∈ i32s l, u.oneCell' = true := by
  intro u hu
  obtain ⟨r, _, rfl⟩ := List.mem_map.1 hu
  rfl
def RunesPost (_s : U.Bs) (rs : List Int) (rest : U.Bs) (w : World) (e : Ending) (w' : World) : Prop :=
  Below w.heap.size w w' ∧ (rest = [] → ∃ v, e = .returned (.tuple #[v, .nilIface]) ∧ Sl w' 1 v rs.length (i32s rs)) ∧
    (rest ≠ [] → ∃ g, e = .returned (.tuple #[.slice none 0 0, atV g]) ∧ AtBlk w' g 3 (U.off rs rs.length))
section
attribute [local go_sem] ext_drop
set_option maxHeartbeats 1000000 in
theorem runes_calls {s : U.Bs} {rs : List Int} {rest : U.Bs} (h : U.Sp s rs rest) (w : World) (hs : s.length ≤ 35184372087808) :
    Calls Tryd.prog 16 #[.string ⟨s.toArray⟩] w (RunesPost s rs rest w) := by
  have H := Hd.mk h
  have hlen := h.length
  have hll := U.len_le_off rs
  clear h
  have HL := Hd.mk hlen
  have hle : U.off rs rs.length ≤ s.length := by omega
  clear hlen
  have hsz : s.length ≤ 35184372087808 := hs
  clear hs
  go_enter Tryd.func16, Tryd.ntmps16
  go_wp2_with fail
  go_loopw [2, 3, 4, 5] (fun n e v i wr => n = .slice none 0 0 ∧ e = .nilIface ∧ ∃ k : Nat, k ≤ rs.length ∧ i = .int .i64 (U.off rs k) ∧ wr.ownsRow w.heap.size 21 1 v k (i32s (rs.take k)) ∧ Below w.heap.size w wr) (fun _ _ _ i _ => s.length - (intOf i).toNat)
  case atStart => exact ⟨rfl, rfl, 0, by omega, rfl, World.ownsRow_nil _ _ _ _, Below.refl _ _⟩
  case round =>
    obtain ⟨rfl, rfl, k, hk, rfl, hown, hbel⟩ := hrel
    have hok : U.off rs k ≤ U.off rs rs.length := U.off_le hk
    by_cases hlt : k < rs.length
    · have hol : U.off rs k < U.off rs rs.length := U.off_lt hlt
      have HN := Hd.mk (H.out.next_at hlt)
      have HO := Hd.mk (U.off_succ hlt)
      have hw1 := U.wid_pos rs[k]
      have hw2 := U.wid_le rs[k]
      generalize hr : rs[k] = r at *
      have HR := Hd.mk hr
      clear hr
      have hlt' : U.off rs k < s.length := by omega
      have hn0 : ((U.wid r : Int) == 0) = false := by rw [beq_eq_false_iff_ne]; omega
      have hb0 := hbel.size
      have HOS := Hd.mk hown
      clear hown
      go_wp2_with (first | (go_at_call 51; refine (next_at HN.out _ (by rw [List.length_drop]; omega)).mono ?_; rintro e w' ⟨rfl, rfl⟩) | (at_builtin; refine append_lit el_i32 #[.int .i32 r] HOS.out rfl rfl rfl rfl rfl (one1 rfl) (by unfold maxLen; omega) (by omega) hb0 ?_; intro v1 w1 hown1 hbel1 _))
      have e1 : i32s (rs.take (k + 1)) = i32s (rs.take k) ++ #[Value.int .i32 r].toList := by
        rw [List.take_succ_eq_append_getElem hlt, i32s, List.map_append, ← HR.out]; rfl
      rw [← e1] at hown1
      refine ⟨⟨rfl, rfl, k + 1, by omega, by rw [HO.out]; go_num, hown1, hbel.trans hbel1⟩, ?_⟩
      simp only [intOf]; omega
    · obtain rfl : k = rs.length := by omega
      have hfin : Sl wr 1 u4 rs.length (i32s rs) := by
        have := Sl.of_own hown
        rwa [List.take_length] at this
      clear hown
      by_cases hr : rest = []
      · subst hr
        have hge : ¬ U.off rs rs.length < s.length := by have := HL.out; simp at this; omega
        clear hlt
        go_wp2_with fail
        go_ret2
        exact ⟨hbel, fun _ => ⟨u4, rfl, hfin⟩, fun h => absurd rfl h⟩
      · have hlt' : U.off rs rs.length < s.length := by
          have := HL.out
          have h2 : 0 < rest.length := List.length_pos_iff.2 hr
          omega
        have HN := Hd.mk H.out.next_end
        have HR := Hd.mk hr
        have hb0 := hbel.size
        clear hlt hfin hr
        go_wp2_with (go_at_call 51; refine (next_at HN.out _ (by rw [List.length_drop]; omega)).mono ?_; rintro e w' ⟨rfl, rfl⟩)
        go_ret2
        exact ⟨hbel.alloc (by omega) _, fun h => absurd h HR.out, fun _ => ⟨wr.heap.size, rfl, heap_alloc_new wr _⟩⟩
end
end Go.Proofs.YthbhhnfhjppbdaaDoor
