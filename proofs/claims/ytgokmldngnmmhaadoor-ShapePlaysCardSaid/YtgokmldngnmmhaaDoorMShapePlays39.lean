/- The closures of shape.Apply: what is put in units; which places are within a rune. -/
import Derived.Test.YtgokmldngnmmhaaDoorMShapePlays37
import Derived.Test.YtgokmldngnmmhaaDoorMShapePlays6
import Derived.Test.YtgokmldngnmmhaaDoorMShapePlays1
namespace Go.Proofs.YtgokmldngnmmhaaDoor
open Go.RowKit
set_option maxRecDepth 100000
theorem putH_calls {rs : List Int} (h : U.AllR rs) (w : World) (hl : bl rs ≤ 1000000) :
    Calls Tryd.prog 89 #[.string ⟨(U.encs rs).toArray⟩] w fun e w' => Below w.heap.size w w' ∧ ∃ v, e = .returned v ∧ Sl w' 1 v (U.hvs rs).length (u16s (U.hvs rs)) := by
  have HC := Hd.mk (halves_calls (U.sp_encs h) w (by show bl rs ≤ _; omega))
  clear h
  go_enter Tryd.func89, Tryd.ntmps89
  go_wp2_with fail
  refine HC.out.mono ?_
  rintro e w1 ⟨hb, hok, -⟩
  obtain ⟨v, rfl, hs⟩ := hok rfl
  have H := Hd.mk (And.intro hb hs)
  clear hb hok hs
  go_wp2_with fail
  go_ret
  exact ⟨H.out.1, v, rfl, H.out.2⟩
theorem putR_calls {rs : List Int} (h : U.AllR rs) (w : World) (hl : bl rs ≤ 1000000) :
    Calls Tryd.prog 92 #[.string ⟨(U.encs rs).toArray⟩] w fun e w' => Below w.heap.size w w' ∧ ∃ v, e = .returned v ∧ Sl w' 1 v rs.length (i32s rs) := by
  have HC := Hd.mk (runes_calls (U.sp_encs h) w (by show bl rs ≤ _; omega))
  clear h
  go_enter Tryd.func92, Tryd.ntmps92
  go_wp2_with fail
  refine HC.out.mono ?_
  rintro e w1 ⟨hb, hok, -⟩
  obtain ⟨v, rfl, hs⟩ := hok rfl
  have H := Hd.mk (And.intro hb hs)
  clear hb hok hs
  go_wp2_with fail
  go_ret
  exact ⟨H.out.1, v, rfl, H.out.2⟩
theorem inR_calls (v : Value) (a : Int) (w : World) : Calls Tryd.prog 93 #[v, .int .i64 a] w fun e w' => e = .returned (.bool false) ∧ w' = w := by
  go_enter Tryd.func93, Tryd.ntmps93
  go_wp2_with fail
  go_ret
  exact ⟨rfl, rfl⟩
section
attribute [local go_sem] add_mk
set_option maxHeartbeats 1000000 in
theorem inH_calls {l : List Int} {v : Value} {n a : Nat} {w : World} (hsl : Sl w 1 v n (u16s l)) (hin : U.InH l) (hn : n ≤ 1000000) (ha : a ≤ n) :
    Calls Tryd.prog 90 #[v, .int .i64 a] w fun e w' => e = .returned (.bool (hInner l a)) ∧ w' = w := by
  have hl : l.length = n := by have := hsl.len; unfold u16s at this; rw [List.length_map] at this; omega
  have HSL := Hd.mk hsl
  have HIN := Hd.mk hin
  obtain ⟨A, c, rfl, -⟩ := hsl
  clear hin
  by_cases h0 : a = 0
  · subst h0
    have hE : hInner l 0 = false := by simp [hInner]
    rw [hE]
    clear hE
    go_enter Tryd.func90, Tryd.ntmps90
    go_wp2_with fail
    go_ret
    exact ⟨rfl, rfl⟩
  · by_cases h1 : a < n
    · obtain ⟨m, rfl⟩ : ∃ m, a = m + 1 := ⟨a - 1, by omega⟩
      have hm : m < l.length := by omega
      obtain ⟨A', c', hv, -, -, -, -, h5⟩ := HSL.out
      cases hv
      obtain ⟨ad, rfl, hb, hc⟩ := h5 (by omega)
      have hq := hc m (.int .u16 l[m]) (by unfold u16s; simp [hm])
      have hE : hInner l (m + 1) = isHigh l[m] := by
        unfold hInner
        rw [decide_eq_true (by omega), decide_eq_true (by omega), List.getD_eq_getElem?_getD, Nat.add_sub_cancel, List.getElem?_eq_getElem hm]
        rfl
      have hx := HIN.out _ (List.getElem_mem hm)
      have ha := and64512 hx
      rw [hE]
      generalize l[m] = x at *
      have e1 : (((m + 1 : Nat) : Int) - 1) = (m : Int) := by omega
      clear hE hc h5
      by_cases hh : isHigh x = true
      · have hb2 : (bits .and .u16 x 64512 == 55296) = true := by
          unfold isHigh at hh; rw [decide_eq_true_iff] at hh; rw [ha, beq_iff_eq]; omega
        rw [hh]
        clear ha hh
        go_enter Tryd.func90, Tryd.ntmps90
        go_wp2_with fail
        go_ret
        exact ⟨rfl, rfl⟩
      · have hh : isHigh x = false := by simpa using hh
        have hb2 : (bits .and .u16 x 64512 == 55296) = false := by
          unfold isHigh at hh; rw [decide_eq_false_iff_not] at hh; rw [ha, beq_eq_false_iff_ne]; omega
        rw [hh]
        clear ha hh
        go_enter Tryd.func90, Tryd.ntmps90
        go_wp2_with fail
        go_ret
        exact ⟨rfl, rfl⟩
    · have hE : hInner l a = false := by unfold hInner; rw [decide_eq_false (by omega : ¬ a < l.length)]; simp
      rw [hE]
      clear hE
      go_enter Tryd.func90, Tryd.ntmps90
      go_wp2_with fail
      go_ret
      exact ⟨rfl, rfl⟩
end
end Go.Proofs.YtgokmldngnmmhaaDoor
