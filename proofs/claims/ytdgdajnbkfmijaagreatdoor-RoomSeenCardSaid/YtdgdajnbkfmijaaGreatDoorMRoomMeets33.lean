/- Several texts of the proof, one behind the other: ShC, RuD. -/
import Derived.Test.YtdgdajnbkfmijaaGreatDoorMRoomMeets30
import Derived.Test.YtdgdajnbkfmijaaGreatDoorMRoomMeets6
import Derived.Test.YtdgdajnbkfmijaaGreatDoorMRoomMeets1
import Derived.Test.YtdgdajnbkfmijaaGreatDoorMRoomMeets19
import Derived.Test.YtdgdajnbkfmijaaGreatDoorMRoomMeets26
/- The closures of shape.Apply: what is put in units; which places are within a rune. -/
namespace Go.Proofs.YtdgdajnbkfmijaaGreatDoor
open Go.RowKit
set_option maxRecDepth 100000
theorem putH_calls {rs : List Int} (h : U.AllR rs) (w : World) (hl : bl rs ≤ 1000000) :
    Calls Tryz.prog 110 #[.string ⟨(U.encs rs).toArray⟩] w fun e w' => Below w.heap.size w w' ∧ ∃ v, e = .returned v ∧ Sl w' 1 v (U.hvs rs).length (u16s (U.hvs rs)) := by
  have HC := Hd.mk (halves_calls (U.sp_encs h) w (by show bl rs ≤ _; omega))
  clear h
  go_enter Tryz.func110, Tryz.ntmps110
  go_wp2_with fail
  refine HC.out.mono ?_
  rintro e w1 ⟨hb, hok, -⟩
  obtain ⟨v, rfl, hs⟩ := hok rfl
  have H := Hd.mk (And.intro hb hs)
  clear hb hok hs
  go_wp2_with fail
  go_ret
  exact ⟨H.out.1, v, rfl, H.out.2⟩
theorem putR_calls {rs : List Int} (h : U.AllR rs) (w : World) (hl : bl rs ≤ 1000000) :
    Calls Tryz.prog 114 #[.string ⟨(U.encs rs).toArray⟩] w fun e w' => Below w.heap.size w w' ∧ ∃ v, e = .returned v ∧ Sl w' 1 v rs.length (i32s rs) := by
  have HC := Hd.mk (runes_calls (U.sp_encs h) w (by show bl rs ≤ _; omega))
  clear h
  go_enter Tryz.func114, Tryz.ntmps114
  go_wp2_with fail
  refine HC.out.mono ?_
  rintro e w1 ⟨hb, hok, -⟩
  obtain ⟨v, rfl, hs⟩ := hok rfl
  have H := Hd.mk (And.intro hb hs)
  clear hb hok hs
  go_wp2_with fail
  go_ret
  exact ⟨H.out.1, v, rfl, H.out.2⟩
theorem inR_calls (v : Value) (a : Int) (w : World) : Calls Tryz.prog 116 #[v, .int .i64 a] w fun e w' => e = .returned (.bool false) ∧ w' = w := by
  go_enter Tryz.func116, Tryz.ntmps116
  go_wp2_with fail
  go_ret
  exact ⟨rfl, rfl⟩
section
attribute [local go_sem] add_mk
set_option maxHeartbeats 1000000 in
theorem inH_calls {l : List Int} {v : Value} {n a : Nat} {w : World} (hsl : Sl w 1 v n (u16s l)) (hin : U.InH l) (hn : n ≤ 1000000) (ha : a ≤ n) :
    Calls Tryz.prog 112 #[v, .int .i64 a] w fun e w' => e = .returned (.bool (hInner l a)) ∧ w' = w := by
  have hl : l.length = n := by have := hsl.len; unfold u16s at this; rw [List.length_map] at this; omega
  have HSL := Hd.mk hsl
  have HIN := Hd.mk hin
  obtain ⟨A, c, rfl, -⟩ := hsl
  clear hin
  by_cases h0 : a = 0
  · subst h0
    have hE : hInner l 0 = false := by simp [hInner]
    rw [hE]
    clear hE
    go_enter Tryz.func112, Tryz.ntmps112
    go_wp2_with fail
    go_ret
    exact ⟨rfl, rfl⟩
  · by_cases h1 : a < n
    · obtain ⟨m, rfl⟩ : ∃ m, a = m + 1 := ⟨a - 1, by omega⟩
      have hm : m < l.length := by omega
      obtain ⟨A', c', hv, -, -, -, -, h5⟩ := HSL.out
      cases hv
      obtain ⟨ad, rfl, hb, hc⟩ := h5 (by omega)
      have hq := hc m (.int .u16 l[m]) (by unfold u16s; simp [hm])
      have hE : hInner l (m + 1) = isHigh l[m] := by
        unfold hInner
        rw [decide_eq_true (by omega), decide_eq_true (by omega), List.getD_eq_getElem?_getD, Nat.add_sub_cancel, List.getElem?_eq_getElem hm]
        rfl
      have hx := HIN.out _ (List.getElem_mem hm)
      have ha := and64512 hx
      rw [hE]
      generalize l[m] = x at *
      have e1 : (((m + 1 : Nat) : Int) - 1) = (m : Int) := by omega
      clear hE hc h5
      by_cases hh : isHigh x = true
      · have hb2 : (bits .and .u16 x 64512 == 55296) = true := by
          unfold isHigh at hh; rw [decide_eq_true_iff] at hh; rw [ha, beq_iff_eq]; omega
        rw [hh]
        clear ha hh
        go_enter Tryz.func112, Tryz.ntmps112
        go_wp2_with fail
        go_ret
        exact ⟨rfl, rfl⟩
      · have hh : isHigh x = false := by simpa using hh
        have hb2 : (bits .and .u16 x 64512 == 55296) = false := by
          unfold isHigh at hh; rw [decide_eq_false_iff_not] at hh; rw [ha, beq_eq_false_iff_ne]; omega
        rw [hh]
        clear ha hh
        go_enter Tryz.func112, Tryz.ntmps112
        go_wp2_with fail
        go_ret
        exact ⟨rfl, rfl⟩
    · have hE : hInner l a = false := by unfold hInner; rw [decide_eq_false (by omega : ¬ a < l.length)]; simp
      rw [hE]
      clear hE
      go_enter Tryz.func112, Tryz.ntmps112
      go_wp2_with fail
      go_ret
      exact ⟨rfl, rfl⟩
end
end Go.Proofs.YtdgdajnbkfmijaaGreatDoor
/- An operation in a unit, turned into bytes, is one over runes. Plain. -/
namespace Go.Proofs.YtdgdajnbkfmijaaGreatDoor
theorem Pl.ahead {u at_ : Int} {R : List Int} {c : Cn} (hu : 1 ≤ u ∧ u ≤ 3) (h : Pl u at_ R c) : AheadR u at_ R c (erV 0) :=
  ⟨fun e => by omega, fun _ e => by have := h.range; omega, fun _ _ => .inl ⟨rfl, h⟩⟩
theorem ahead_ex (u at_ : Int) (R : List Int) : ∃ c k, AheadR u at_ R c (erV k) := by
  by_cases hu : u < 1 ∨ 3 < u
  · exact ⟨Cn.zero, 1, fun _ => ⟨rfl, rfl⟩, fun e => absurd hu e, fun e => absurd hu e⟩
  · by_cases ha : at_ < 0 ∨ (cnt R).of u < at_
    · exact ⟨Cn.zero, 2, fun e => absurd e hu, fun _ _ => ⟨rfl, rfl⟩, fun _ e => absurd ha e⟩
    · by_cases hp : ∃ c, Pl u at_ R c
      · obtain ⟨c, hp⟩ := hp
        exact ⟨c, 0, fun e => absurd e hu, fun _ e => absurd e ha, fun _ _ => .inl ⟨rfl, hp⟩⟩
      · exact ⟨Cn.zero, 10, fun e => absurd e hu, fun _ e => absurd e ha, fun _ _ => .inr ⟨rfl, rfl, fun c' h => hp ⟨c', h⟩⟩⟩
theorem of_one_bl (rs : List Int) : (cnt rs).of 1 = bl rs := by
  have := cnt_b rs
  exact this
theorem of_three (rs : List Int) : (cnt rs).of 3 = rs.length := (cnt_in rs).2.2
/-- A place behind another one. -/
theorem pl_behind {u a n : Int} {P Q : List Int} {c : Cn} (ha : (cnt P).of u = a) (hn : 0 ≤ n) (hu : 1 ≤ u ∧ u ≤ 3) (h : Pl u (a + n) (P ++ Q) c) : ∃ d q, Q = d ++ q ∧ c = cnt (P ++ d) ∧ (cnt d).of u = n := by
  obtain ⟨p', q', e1, e2, rfl⟩ := h
  rcases pre_le e1 with ⟨d, h1, h2⟩ | ⟨d, h1, h2⟩
  · subst h1 h2
    rw [cnt_app_of] at e2
    exact ⟨d, q', rfl, rfl, by omega⟩
  · subst h1 h2
    rw [cnt_app_of] at ha
    have := of_nn d u
    have h0 : (cnt d).of u = 0 := by omega
    have h3 : d = [] := by
      have := of_len d hu
      exact List.length_eq_zero_iff.1 (by omega)
    subst h3
    exact ⟨[], Q, rfl, by rw [List.append_nil, List.append_nil], by rw [cnt_nil, of_zero]; omega⟩
theorem opR_put {b : U.Bs} (h : (⟨0, 0, b⟩ : PT).Good) : ∃ rs, rs ≠ [] ∧ U.AllR rs ∧ b = U.encs rs := by
  obtain ⟨h1, rs, hs⟩ := h
  have e := hs.eq
  rw [List.append_nil] at e
  refine ⟨rs, ?_, hs.all, e⟩
  rintro rfl
  have : b = [] := e
  subst this
  exact absurd h1.1 (by decide)
/-- What comes of a turn into bytes, if nothing is wrong. -/
theorem tnF_opr {R P Q : List Int} {u : Int} {l : List PT} (hu : 1 ≤ u ∧ u ≤ 3) (hR : R = P ++ Q) (hg : ∀ p ∈ l, p.Good) (hw : was l = (cnt Q).of u) (hk : (tnF R u 1 (cnt P) ((cnt P).of u) l).2 = 0) :
    (∃ X, OpR (tnF R u 1 (cnt P) ((cnt P).of u) l).1 X Q) ∧ plen (tnF R u 1 (cnt P) ((cnt P).of u) l).1 = plen l ∧ (tnF R u 1 (cnt P) ((cnt P).of u) l).1.length = l.length := by
  induction l generalizing P Q with
  | nil =>
    have : Q = [] := by
      have := of_len Q hu
      rw [was] at hw
      exact List.length_eq_zero_iff.1 (by omega)
    subst this
    rw [tnF]
    exact ⟨⟨_, .nil⟩, rfl, rfl⟩
  | cons p l ih =>
    obtain ⟨c, k, hA⟩ := ahead_ex u ((cnt P).of u + (p.keep + p.drop)) R
    have hgp := hg p (by simp)
    have hgl : ∀ q ∈ l, q.Good := fun q hq => hg q (by simp [hq])
    by_cases h0 : k = 0
    · subst h0
      rw [tnF_step hA] at hk ⊢
      have hpl := hA.nil
      rw [hR] at hpl
      have hnn := hgp.1.2
      obtain ⟨d, q, rfl, rfl, hd⟩ := pl_behind rfl (by omega) hu hpl
      have e1 : (cnt P).of u + (p.keep + p.drop) = (cnt (P ++ d)).of u := by rw [cnt_app_of, hd]
      rw [was, cnt_app_of, hd] at hw
      rw [e1] at hk ⊢
      dsimp only at hk ⊢
      obtain ⟨⟨X, i1⟩, i2, i3⟩ := ih (P := P ++ d) (Q := q) (by rw [hR, List.append_assoc]) hgl (by omega) hk
      have e2 : (cnt (P ++ d)).of 1 - (cnt P).of 1 = bl d := by rw [cnt_app_of, of_one_bl d]; omega
      rw [e2]
      rcases hgp.1.cases with ⟨b, hb, rfl⟩ | ⟨n, hn, rfl⟩ | ⟨n, hn, rfl⟩
      · obtain ⟨rs, hr, hall, rfl⟩ := opR_put hgp
        have hd0 : d = [] := by
          have := of_len d hu
          dsimp only at hd
          exact List.length_eq_zero_iff.1 (by omega)
        subst hd0
        rw [tnP_put, plen, plen, List.length_cons, List.length_cons, i2, i3]
        exact ⟨⟨_, .put hr hall i1⟩, rfl, rfl⟩
      · have hd0 : d ≠ [] := by
          rintro rfl
          rw [cnt_nil, of_zero] at hd
          dsimp only at hd
          omega
        rw [tnP_drop hn, plen, plen, List.length_cons, List.length_cons, i2, i3]
        exact ⟨⟨_, .drop hd0 i1⟩, rfl, rfl⟩
      · have hd0 : d ≠ [] := by
          rintro rfl
          rw [cnt_nil, of_zero] at hd
          dsimp only at hd
          omega
        rw [tnP_keep hn, plen, plen, List.length_cons, List.length_cons, i2, i3]
        exact ⟨⟨_, .keep hd0 i1⟩, rfl, rfl⟩
    · rw [tnF_stop hA h0] at hk
      exact absurd hk h0
theorem chk_of {l : List PT} {n : Int} (hg : ∀ p ∈ l, p.Good) (hw : was l = n) : chk l n = 0 := by
  unfold chk
  rw [e1_good hg, if_pos rfl]
  exact e2_ok (fun p hp => (hg p hp).1) hw
/-- An operation in any unit, in bytes. -/
theorem tnR_opr {R : List Int} {l o : List PT} {u : Int} (hu : 1 ≤ u ∧ u ≤ 3) (h : TnR R l u 1 o 0) : (∃ X, OpR o X R) ∧ plen o = plen l ∧ o.length = l.length ∧ (∀ p ∈ l, p.Good) ∧ was l = (cnt R).of u := by
  have hc : chk l ((cnt R).of u) = 0 := by
    by_cases hc : chk l ((cnt R).of u) = 0
    · exact hc
    · exact absurd (h.2.1 ⟨hu, by decide⟩ hc).2.symm hc
  obtain ⟨hg, hw⟩ := chk_zero hc
  obtain ⟨e1, e2⟩ := h.2.2 ⟨hu, by decide⟩ hc
  have z : ((cnt ([] : List Int)).of u) = 0 := by rw [cnt_nil, of_zero]
  obtain ⟨a, b, c⟩ := tnF_opr (R := R) (P := []) (Q := R) hu rfl hg hw (by rw [z, cnt_nil]; exact e1.symm)
  rw [z, cnt_nil] at a b c
  rw [if_pos rfl] at e2
  subst e2
  exact ⟨a, b, c, hg, hw⟩
end Go.Proofs.YtdgdajnbkfmijaaGreatDoor
