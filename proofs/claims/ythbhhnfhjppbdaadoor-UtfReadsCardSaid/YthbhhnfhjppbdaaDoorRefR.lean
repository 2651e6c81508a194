/- The reference's Runes. -/
import Derived.Test.YthbhhnfhjppbdaaDoorRefF
import Derived.Test.YthbhhnfhjppbdaaDoorRefT
namespace Go.Proofs.YthbhhnfhjppbdaaDoor
open Go.RowKit
set_option maxRecDepth 100000
theorem first_at {s : U.Bs} {r : Int} {n : Nat} (h : U.next s = (r, n)) (w : World) (hl : s.length ≤ 140737488351232) :
    Calls Tryd.prog 50 #[.string ⟨s.toArray⟩] w fun e w' => e = .returned (.tuple #[.int .i32 r, .int .i64 n]) ∧ Below w.heap.size w w' := by
  have := first_calls hl w
  rw [h] at this
  exact this
theorem own_below {w w' : World} {base : Nat} {e : TypeId} {size : Nat} {v : Value} {n : Nat} {xs : List Value} (h : w.ownsRow base e size v n xs) (hb : Below w.heap.size w w') : w'.ownsRow base e size v n xs := by
  rcases h with ⟨h1, h | ⟨g, cap, cur, h2, h3, hg, h4⟩⟩
  · exact ⟨h1, .inl h⟩
  · exact ⟨h1, .inr ⟨g, cap, cur, h2, h3, (hb.block g (Array.getElem?_eq_some_iff.1 hg).1).trans hg, h4⟩⟩
theorem own_far {w w' : World} {g0 : Nat} {e : TypeId} {size : Nat} {v : Value} {n : Nat} {xs : List Value} (h : w.ownsRow (g0 + 1) e size v n xs) (hf : ∀ g', g' ≠ g0 → w'.heap[g']? = w.heap[g']?) : w'.ownsRow (g0 + 1) e size v n xs := by
  rcases h with ⟨h1, h | ⟨g, cap, cur, h2, h3, hg, h4⟩⟩
  · exact ⟨h1, .inl h⟩
  · exact ⟨h1, .inr ⟨g, cap, cur, h2, h3, (hf g (by omega)).trans hg, h4⟩⟩
def RRunesPost (rs : List Int) (rest : U.Bs) (w : World) (e : Ending) (w' : World) : Prop :=
  Below w.heap.size w w' ∧ (rest = [] → ∃ v, e = .returned (.tuple #[v, fltV 0 (-1)]) ∧ Sl w' 1 v rs.length (i32s rs)) ∧
    (rest ≠ [] → e = .returned (.tuple #[.slice none 0 0, fltV 3 (U.off rs rs.length)]))
section
attribute [local go_sem] ext_drop
set_option maxHeartbeats 2000000 in
theorem rrunes_calls {s : U.Bs} {rs : List Int} {rest : U.Bs} (h : U.Sp s rs rest) (w : World) (hs : s.length ≤ 35184372087808) :
    Calls Tryd.prog 15 #[.string ⟨s.toArray⟩] w (RRunesPost rs rest w) := by
  have H := Hd.mk h
  have hlen := h.length
  have hll := U.len_le_off rs
  clear h
  have HL := Hd.mk hlen
  have hle : U.off rs rs.length ≤ s.length := by omega
  clear hlen
  go_enter Tryd.func15, Tryd.ntmps15
  go_wp2_with fail
  go_loopw [2, 4, 5] (fun t v i wr => t = .slice none 0 0 ∧ ∃ k : Nat, k ≤ rs.length ∧ i = .int .i64 (U.off rs k) ∧ wr.ownsRow (w.heap.size + 1) 21 1 v k (i32s (rs.take k)) ∧ Blk wr w.heap.size 39 #[.int .i64 0, .int .i64 0] ∧ Below w.heap.size w wr) (fun _ _ i _ => s.length - (intOf i).toNat)
  case atStart => exact ⟨rfl, 0, by omega, rfl, World.ownsRow_nil _ _ _ _, Blk.new _ _ _, (by repeat (first | exact Below.refl _ _ | exact ex_drew (by assumption) | apply ex_drew | apply ex_drewN | apply ex_alloc | assumption))⟩
  case round =>
    obtain ⟨rfl, k, hk, rfl, hown, hblk, hbel⟩ := hrel
    have hb0 : w.heap.size + 1 ≤ wr.heap.size := by have := hblk.lt; omega
    have HB := Hd.mk hbel
    have HK := Hd.mk hblk
    have hgl := hblk.lt
    have hok : U.off rs k ≤ U.off rs rs.length := U.off_le hk
    by_cases hlt : k < rs.length
    · have hol : U.off rs k < U.off rs rs.length := U.off_lt hlt
      have HN := Hd.mk (H.out.next_at hlt)
      have HO := Hd.mk (U.off_succ hlt)
      have hw1 := U.wid_pos rs[k]
      have hw2 := U.wid_le rs[k]
      generalize hr : rs[k] = r at *
      have HR := Hd.mk hr
      clear hr
      have hlt' : U.off rs k < s.length := by omega
      have hn0 : ((U.wid r : Int) == 0) = false := by rw [beq_eq_false_iff_ne]; omega
      have HOS := Hd.mk hown
      clear hown hbel hblk
      go_wp2_with fail
      refine (first_at HN.out _ (by rw [List.length_drop]; omega)).mono ?_
      rintro e w1 ⟨rfl, hb1⟩
      have HB1 := Hd.mk (HB.out.trans (hb1.mono (by omega)))
      have HK1 := Hd.mk (HK.out.below hb1 hgl)
      have HO1 := Hd.mk (own_below HOS.out hb1)
      have hb2 : w.heap.size + 1 ≤ w1.heap.size := by have := hb1.size; omega
      clear hb1 HOS HK HB
      go_wp2_with (at_builtin; refine append_lit el_i32 #[.int .i32 r] HO1.out rfl rfl rfl rfl rfl (one1 rfl) (by unfold maxLen; omega) (by omega) hb2 ?_; intro v1 w2 hown1 hbel1 _)
      have e1 : i32s (rs.take (k + 1)) = i32s (rs.take k) ++ #[Value.int .i32 r].toList := by
        rw [List.take_succ_eq_append_getElem hlt, i32s, List.map_append, ← HR.out]; rfl
      rw [← e1] at hown1
      refine ⟨⟨rfl, k + 1, by omega, by rw [HO.out]; go_num, hown1, HK1.out.below hbel1 (by omega), HB1.out.trans (hbel1.mono (by omega))⟩, ?_⟩
      simp only [intOf]; omega
    · obtain rfl : k = rs.length := by omega
      rw [List.take_length] at hown
      have HF := Hd.mk hown
      clear hown hbel hblk
      by_cases hr : rest = []
      · have hge : ¬ U.off rs rs.length < s.length := by have := HL.out; rw [hr] at this; simp at this; omega
        have HRE := Hd.mk hr
        clear hlt hr
        go_wp2_with fail
        refine (bareR_calls 0 _).mono ?_
        rintro e w1 ⟨rfl, hb1⟩
        have hK1 := HK.out.below hb1 hgl
        have HF1 := Hd.mk (own_below HF.out hb1)
        have HK1 := Hd.mk hK1
        have hf := hK1.frozen
        have c0 := hK1.cell 0
        have c1 := hK1.cell 1
        simp only [List.getElem?_toArray, List.getElem?_cons_zero, List.getElem?_cons_succ] at c0 c1
        have HB1 := Hd.mk (HB.out.trans (hb1.mono (by omega)))
        clear hK1 hb1
        go_wp2_with fail
        refine HK1.out.set2 (F := fun W => bodyPost _ _ _ Exit.ret _ W) ?_
        intro w3 hC3 hB3 _ hfar
        have g0 := hC3.cell 0
        have g1 := hC3.cell 1
        simp only [List.getElem?_toArray, List.getElem?_cons_zero, List.getElem?_cons_succ] at g0 g1
        refine bodyPost_ret (v := .tuple #[u4, fltV 0 (-1)]) (by simp [results, fltV, Tryd.results15, go_sem, g0, g1]) rfl ?_
        exact ⟨HB1.out.trans (hB3 _ (Nat.le_refl _)), fun _ => ⟨u4, rfl, Sl.of_own (own_far HF1.out hfar)⟩, fun h => absurd HRE.out h⟩
      · have hlt' : U.off rs rs.length < s.length := by
          have := HL.out
          have h2 : 0 < rest.length := List.length_pos_iff.2 hr
          omega
        have HN := Hd.mk H.out.next_end
        have HR := Hd.mk hr
        clear hlt hr HF
        go_wp2_with fail
        refine (first_at HN.out _ (by rw [List.length_drop]; omega)).mono ?_
        rintro e w1 ⟨rfl, hb1⟩
        have HB1 := Hd.mk (HB.out.trans (hb1.mono (by omega)))
        have hK1 := HK.out.below hb1 hgl
        have HK1 := Hd.mk hK1
        have hf := hK1.frozen
        have c0 := hK1.cell 0
        have c1 := hK1.cell 1
        simp only [List.getElem?_toArray, List.getElem?_cons_zero, List.getElem?_cons_succ] at c0 c1
        clear hK1 hb1
        go_wp2_with fail
        refine HK1.out.set2 (F := fun W => bodyPost _ _ _ Exit.ret _ W) ?_
        intro w3 hC3 hB3 _ _
        have g0 := hC3.cell 0
        have g1 := hC3.cell 1
        simp only [List.getElem?_toArray, List.getElem?_cons_zero, List.getElem?_cons_succ] at g0 g1
        refine bodyPost_ret (v := .tuple #[.slice none 0 0, fltV 3 (U.off rs rs.length)]) (by simp [results, fltV, Tryd.results15, go_sem, g0, g1]) rfl ?_
        exact ⟨HB1.out.trans (hB3 _ (Nat.le_refl _)), fun h => absurd h HR.out, fun _ => rfl⟩
end
end Go.Proofs.YthbhhnfhjppbdaaDoor
