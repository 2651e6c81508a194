/- pos.Convert, pos.Spot, pos.Place. -/
import Derived.Test.YtdgdajnbkfmijaaGreatDoorMServerPlays34
import Derived.Test.YtdgdajnbkfmijaaGreatDoorMServerPlays36
namespace Go.Proofs.YtdgdajnbkfmijaaGreatDoor
open Go.RowKit
set_option maxRecDepth 100000
theorem Pl.l {u at_ : Int} {R : List Int} {c : Cn} (h : Pl u at_ R c) : 0 ≤ c.l ∧ c.l ≤ (cnt R).l := by
  obtain ⟨p, q, rfl, -, rfl⟩ := h
  rw [cnt_app_l]
  have := l_nn p
  have := l_nn q
  omega
theorem Pl.of_le {u at_ : Int} {R : List Int} {c : Cn} (h : Pl u at_ R c) (hR : R.length ≤ 8000) (v : Int) : 0 ≤ c.of v ∧ c.of v ≤ 32000 := by
  obtain ⟨p, q, rfl, -, rfl⟩ := h
  simp only [List.length_append] at hR
  exact ⟨of_nn _ _, by have := Go.Proofs.YtdgdajnbkfmijaaGreatDoor.of_le (rs := p) (n := 8000) (by omega) v; omega⟩
theorem Ln.of_le {n : Int} {R : List Int} {c : Cn} (h : Ln n R c) (hR : R.length ≤ 8000) (v : Int) : 0 ≤ c.of v ∧ c.of v ≤ 32000 := by
  obtain ⟨p, q, rfl, -, rfl, -⟩ := h
  simp only [List.length_append] at hR
  exact ⟨of_nn _ _, by have := Go.Proofs.YtdgdajnbkfmijaaGreatDoor.of_le (rs := p) (n := 8000) (by omega) v; omega⟩
/-- A line begins ahead of whatever lies in it. -/
theorem ln_le {p q : List Int} {lc : Cn} {u : Int} (h : Ln (cnt p).l (p ++ q) lc) : lc.of u ≤ (cnt p).of u := by
  obtain ⟨p', q', e1, e2, rfl, e3⟩ := h
  rcases pre_le e1 with ⟨d, h1, h2⟩ | ⟨d, h1, h2⟩
  · rw [h1, cnt_app_l] at e2
    rcases List.eq_nil_or_concat d with rfl | ⟨d', y, rfl⟩
    · rw [List.append_nil] at h1; rw [h1]; omega
    · exfalso
      rcases e3 with e3 | ⟨p3, e3⟩
      · rw [h1] at e3; simp at e3
      · rw [h1, List.concat_eq_append, ← List.append_assoc] at e3
        have hy := (List.append_inj' e3 rfl).2
        simp at hy
        subst hy
        rw [List.concat_eq_append, cnt_app_l, cnt_one_l] at e2
        have := l_nn d'
        simp at e2
        omega
  · rw [h1, cnt_app_of]; have := of_nn d u; omega
/-- The next line begins behind it. -/
theorem ln_next {p q : List Int} {nx : Cn} {u : Int} (hu : 1 ≤ u ∧ u ≤ 3) (h : Ln ((cnt p).l + 1) (p ++ q) nx) : (cnt p).of u + 1 ≤ nx.of u := by
  obtain ⟨p', q', e1, e2, rfl, e3⟩ := h
  rcases pre_le e1 with ⟨d, h1, h2⟩ | ⟨d, h1, h2⟩
  · rw [h1, cnt_app_l] at e2
    rw [h1, cnt_app_of]
    have hd : d ≠ [] := by rintro rfl; rw [cnt_nil] at e2; change _ + (0 : Int) = _ at e2; omega
    have := of_len d hu
    have := List.length_pos_iff.2 hd
    omega
  · rw [h1, cnt_app_l] at e2
    have := l_nn d
    omega
def ConvPost (u v at_ : Int) (R : List Int) (w : World) (e : Ending) (w' : World) : Prop :=
  Below w.heap.size w w' ∧ ((∃ c, Pl u at_ R c ∧ e = .returned (.tuple #[.int .i64 (c.of v), .nilIface])) ∨ ((∀ c, ¬ Pl u at_ R c) ∧ ∃ k, 1 ≤ k ∧ e = .returned (.tuple #[.int .i64 0, errno k])))
attribute [local go_sem] Cn.v_eq
def SpotPost (u at_ : Int) (R : List Int) (w : World) (e : Ending) (w' : World) : Prop :=
  Below w.heap.size w w' ∧ ((∃ c lc, Pl u at_ R c ∧ Ln c.l R lc ∧ e = .returned (.tuple #[.agg #[.int .i64 c.l, .int .i64 (c.of u - lc.of u)], .nilIface])) ∨ ((∀ c, ¬ Pl u at_ R c) ∧ ∃ k, 1 ≤ k ∧ e = .returned (.tuple #[.agg #[.int .i64 0, .int .i64 0], errno k])))
end Go.Proofs.YtdgdajnbkfmijaaGreatDoor
