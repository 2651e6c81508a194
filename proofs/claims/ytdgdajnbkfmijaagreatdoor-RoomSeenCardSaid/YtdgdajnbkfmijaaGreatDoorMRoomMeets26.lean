/- Several texts of the proof, one behind the other: Fit, RuB, BrM. -/
import Derived.Test.YtdgdajnbkfmijaaGreatDoorMRoomMeets13
import Derived.Test.YtdgdajnbkfmijaaGreatDoorMRoomMeets19
import Derived.Test.YtdgdajnbkfmijaaGreatDoorMRoomMeets23
import Derived.Test.YtdgdajnbkfmijaaGreatDoorMRoomMeets24
import Derived.Test.YtdgdajnbkfmijaaGreatDoorMRoomMeets22
import Derived.Test.YtdgdajnbkfmijaaGreatDoorMRoomMeets1
import Derived.Test.YtdgdajnbkfmijaaGreatDoorMRoomMeets10
/- keep.fit: an operation of numbers, made one over so many. -/
namespace Go.Proofs.YtdgdajnbkfmijaaGreatDoor
open Go.RowKit
set_option maxRecDepth 100000
/-- What stands so far, of an operation over N: m are left. -/
structure FitI (N m : Int) (c d : Nat) (L : List PT) : Prop where
  m0 : 0 ≤ m
  tot : was L + m = N
  good : ∀ p ∈ L, p.Good
  put : plen L ≤ d
  len : L.length ≤ c
theorem FitI.mono {N m : Int} {c d c' d' : Nat} {L : List PT} (h : FitI N m c d L) (hc : c ≤ c') (hd : d ≤ d') : FitI N m c' d' L := ⟨h.m0, h.tot, h.good, Nat.le_trans h.put hd, Nat.le_trans h.len hc⟩
theorem snoc_good {L : List PT} {p : PT} (h : ∀ q ∈ L, q.Good) (hp : p.Good) : ∀ q ∈ L ++ [p], q.Good := by
  intro q hq
  rcases List.mem_append.1 hq with hq | hq
  · exact h q hq
  · obtain rfl := List.mem_singleton.1 hq; exact hp
theorem form_nil {k d : Int} : PT.form ⟨k, d, []⟩ := ⟨[], (fun r hr => by cases hr), rfl, rfl⟩
theorem FitI.put_ {N m : Int} {c d : Nat} {L : List PT} (h : FitI N m c d L) {b : U.Bs} {rs : List Int} (hb : b ≠ []) (hs : U.Sp b rs []) (hl : b.length ≤ 150) : FitI N m (c + 2) (d + 150) (L ++ [(⟨0, 0, b⟩ : PT)]) := by
  refine ⟨h.m0, by rw [was_append]; simp [was]; exact h.tot, snoc_good h.good ⟨PT.arg_put hb, rs, hs⟩, ?_, by rw [List.length_append]; have := h.len; simp; omega⟩
  rw [plen_append]; simp [plen]; have := h.put; omega
theorem FitI.keep_ {N m x : Int} {c d : Nat} {L : List PT} (h : FitI N m c d L) (hx : 0 < x ∧ x ≤ m) : FitI N (m - x) (c + 1) d (L ++ [(⟨x, 0, []⟩ : PT)]) := by
  refine ⟨by omega, by rw [was_append]; have := h.tot; simp [was]; omega, snoc_good h.good ⟨PT.arg_keep hx.1, form_nil⟩, ?_, by rw [List.length_append]; have := h.len; simp; omega⟩
  rw [plen_append]; simp [plen]; exact h.put
theorem FitI.drop_ {N m x : Int} {c d : Nat} {L : List PT} (h : FitI N m c d L) (hx : 0 < x ∧ x ≤ m) : FitI N (m - x) (c + 1) d (L ++ [(⟨0, x, []⟩ : PT)]) := by
  refine ⟨by omega, by rw [was_append]; have := h.tot; simp [was]; omega, snoc_good h.good ⟨PT.arg_drop hx.1, form_nil⟩, ?_, by rw [List.length_append]; have := h.len; simp; omega⟩
  rw [plen_append]; simp [plen]; exact h.put
theorem FitI.start {N : Int} (h : 0 ≤ N) : FitI N N 0 0 [] := ⟨h, by simp [was], (fun p hp => by cases hp), Nat.le_refl _, Nat.le_refl _⟩
def KFitPost (N : Int) (w : World) (e : Ending) (w' : World) : Prop :=
  Below w.heap.size w w' ∧ ∃ v L, e = .returned v ∧ Sl w' 3 v L.length (opv L) ∧ (∀ p ∈ L, p.Good) ∧ was L = N ∧ plen L ≤ 4500 ∧ L.length ≤ 61
section
attribute [local go_sem] add_mk Cn.v_eq
set_option maxHeartbeats 8000000 in
theorem kfit_new {l : List PT} {v : Value} {n : Nat} {N : Int} {w : World} (hsl : Sl w 3 v n (opv l)) (hN : 0 ≤ N ∧ N ≤ 1000000) :
    Calls Tryz.prog 65 #[v, .int .i64 N] w fun e w' => KFitPost N w e w' ∧ FrE1 w.heap.size e := by
  have hln : l.length = n := by have := hsl.len; rw [opv_length] at this; omega
  have HSL := Hd.mk hsl
  obtain ⟨hN0, hN1⟩ := hN
  obtain ⟨A, c, rfl, -⟩ := hsl
  have hz : w.heap.size ≤ w.heap.size := Nat.le_refl _
  go_enter Tryz.func65, Tryz.ntmps65
  go_wp2_with fail
  go_loopw [1, 5, 6] (fun nv out i wr => ∃ (k : Nat) (m : Int) (L : List PT), i = .int .i64 (k : Int) ∧ nv = .int .i64 m ∧ k ≤ 30 ∧ wr.ownsRow w.heap.size 113 3 out L.length (opv L) ∧ Below w.heap.size w wr ∧ FitI N m (2 * k) (150 * k) L) (fun _ _ i _ => 30 - (intOf i).toNat)
  case atStart => exact ⟨0, N, [], rfl, rfl, by omega, World.ownsRow_nil _ _ _ _, Below.refl _ _, FitI.start hN0⟩
  case round =>
    obtain ⟨k, m, L, rfl, rfl, hk30, hown, hbel, hI⟩ := hrel
    have HB := Hd.mk hbel
    have HOW := Hd.mk hown
    have HI := Hd.mk hI
    have hm0 := hI.m0
    have hmN : m ≤ N := by have := hI.tot; have := was_nn fun p hp => (hI.good p hp).1; omega
    obtain ⟨Ao, co, rfl⟩ := own_form hown
    have hsz := hbel.size
    by_cases hkn : k < n
    · by_cases hk3 : k < 30
      · obtain ⟨b, o, c', hv, hlt, c0, c1, c2⟩ := (HSL.out.below hbel).part hkn (by omega)
        cases hv
        clear hown hbel hI
        generalize l[k] = q at *
        obtain ⟨x, y, z⟩ := q
        dsimp only at c0 c1 c2
        have HPB := Hd.mk (Blk.new wr 113 #[.int .i64 x, .int .i64 y, .string ⟨z.toArray⟩])
        have HOB : Hd (∀ j, (Value.slice Ao L.length co).ownBlock = some j → j ≠ wr.heap.size) := ⟨fun j e => by have := (HOW.out.lt j e).2; omega⟩
        by_cases hz150 : 150 < z.length
        · have hz1 : (150 : Int) < (z.length : Int) := by omega
          clear hz150
          go_wp2_with fail
          exact ⟨⟨k + 1, m, L, by go_num, rfl, by omega, own_below HOW.out (ex_alloc (Below.refl _ _) _), ex_alloc HB.out _, HI.out.mono (by omega) (by omega)⟩, by simp only [intOf]; omega⟩
        · have hz1 : ¬ ((150 : Int) < (z.length : Int)) := by omega
          obtain ⟨rs, rest, hsp⟩ := U.sp_exists z
          have HSP := Hd.mk hsp
          have HZL : Hd (z.length ≤ 150) := ⟨by omega⟩
          clear hsp hz150
          go_wp2_with fail
          refine (count_calls HSP.out _ (by omega)).mono ?_
          rintro e w1 ⟨hb1, hok, hno⟩
          have hpb1 := HPB.out.below hb1 HPB.out.lt
          have HB1 := Hd.mk (bstep (ex_alloc HB.out _) hb1)
          have HOW1 := Hd.mk (own_below HOW.out (bstep (ex_alloc (Below.refl _ _) _) hb1))
          clear hb1 HPB
          by_cases hr : rest = []
          · obtain rfl := hok hr
            clear hok hno
            by_cases hz0 : z = []
            · subst hz0
              have HPB := Hd.mk (hpb1.alloc (.cells #[.int .i64 (cnt rs).b, .int .i64 (cnt rs).h, .int .i64 (cnt rs).r, .int .i64 (cnt rs).l] 63))
              have HOW2 := Hd.mk (HOW1.out.alloc (.cells #[.int .i64 (cnt rs).b, .int .i64 (cnt rs).h, .int .i64 (cnt rs).r, .int .i64 (cnt rs).l] 63))
              have HB2 := Hd.mk (ex_alloc HB1.out (.cells #[.int .i64 (cnt rs).b, .int .i64 (cnt rs).h, .int .i64 (cnt rs).r, .int .i64 (cnt rs).l] 63))
              obtain ⟨P0, P1, P2⟩ := cut_cells HPB.out
              clear hpb1
              go_wp2_with fail
              generalize w1.alloc (.cells #[.int .i64 (cnt rs).b, .int .i64 (cnt rs).h, .int .i64 (cnt rs).r, .int .i64 (cnt rs).l] 63) = w2 at HPB HOW2 HB2 P0 P1 P2 ⊢
              refine (pick_calls x 12 (by omega) _).mono ?_
              rintro e w3 ⟨k1, rfl, h11, h12, rfl⟩
              by_cases hk1 : 0 < k1 ∧ k1 ≤ m
              · obtain ⟨hk11, hk12⟩ := hk1
                have HL1 : Hd (L.length + 1 ≤ maxLen) := ⟨by have := HI.out.len; unfold maxLen; omega⟩
                have HL2 : Hd ((L.length + 1) * 32 ≤ 140737488355328) := ⟨by have := HI.out.len; omega⟩
                have HL3 : Hd (w.heap.size ≤ w3.heap.size) := ⟨HB2.out.size⟩
                have HK1 := Hd.mk (And.intro hk11 hk12)
                go_wp2_with (at_builtin; refine append_lit' el_part #[.int .i64 k1, .int .i64 0, .string ⟨#[]⟩] HOW2.out rfl rfl rfl rfl (by simp) rfl (one3 rfl rfl rfl) HL1.out HL2.out HL3.out ?_; intro v9 w9 hown9 hbel9 hgr9 hnew9; obtain ⟨A9, k9, rfl⟩ := own_form hown9; have hpb9 := HPB.out.only (Only.of_grown hgr9) (fun e => by have := HOB.out _ e.symm; omega); obtain ⟨P0, P1, P2⟩ := cut_cells hpb9; have HPB9 := Hd.mk hpb9; have HO9 := Hd.mk hown9; have HB9 := Hd.mk hbel9; have HOB9 : Hd (∀ j, (Value.slice A9 (L.length + 1) k9).ownBlock = some j → j ≠ wr.heap.size) := ⟨fun j e => by rcases hnew9 j e with e | e; (exact HOB.out j e); (have := HPB.out.lt; omega)⟩; clear hown9 hbel9 hgr9 hnew9 hpb9)
                have HI2 : Hd (FitI N (m - k1) (2 * k + 1) (150 * k) (L ++ [(⟨k1, 0, []⟩ : PT)])) := ⟨HI.out.keep_ HK1.out⟩
                have HOW9 : Hd (w9.ownsRow w.heap.size 113 3 (.slice A9 (L.length + 1) k9) (L ++ [(⟨k1, 0, []⟩ : PT)]).length (opv (L ++ [(⟨k1, 0, []⟩ : PT)]))) := ⟨by rw [opv_append, opv_one, List.length_append]; exact HO9.out⟩
                have HB10 := Hd.mk (HB2.out.trans HB9.out)
                have hll : (L ++ [(⟨k1, 0, []⟩ : PT)]).length = L.length + 1 := by simp
                have HLL := Hd.mk hll
                clear hll HO9 HL1 HL2 HL3
                generalize L ++ [(⟨k1, 0, []⟩ : PT)] = L9 at HI2 HOW9 HLL
                rw [← HLL.out] at HOW9 ⊢
                refine (pick_calls y 7 (by omega) _).mono ?_
                rintro e w8 ⟨k2, rfl, h21, h22, rfl⟩
                by_cases hk2 : 0 < k2 ∧ k2 ≤ (m - k1)
                · obtain ⟨hk21, hk22⟩ := hk2
                  have HL1 : Hd ((L9).length + 1 ≤ maxLen) := ⟨by have := HI2.out.len; unfold maxLen; omega⟩
                  have HL2 : Hd (((L9).length + 1) * 32 ≤ 140737488355328) := ⟨by have := HI2.out.len; omega⟩
                  have HL3 : Hd (w.heap.size ≤ w8.heap.size) := ⟨HB10.out.size⟩
                  have HK2 := Hd.mk (And.intro hk21 hk22)
                  go_wp2_with (at_builtin; refine append_lit' el_part #[.int .i64 0, .int .i64 k2, .string ⟨#[]⟩] HOW9.out rfl rfl rfl rfl (by simp) rfl (one3 rfl rfl rfl) HL1.out HL2.out HL3.out ?_; intro v7 w7 hown7 hbel7 hgr7 hnew7; obtain ⟨A7, k7, rfl⟩ := own_form hown7; have HO7 := Hd.mk hown7; have HB7 := Hd.mk hbel7; clear hown7 hbel7 hgr7 hnew7)
                  exact ⟨⟨k + 1, (m - k1) - k2, L9 ++ [(⟨0, k2, []⟩ : PT)], by go_num, rfl, by omega, by rw [opv_append, opv_one, List.length_append]; exact HO7.out, HB10.out.trans HB7.out, (HI2.out.drop_ HK2.out).mono (by omega) (by omega)⟩, by simp only [intOf]; omega⟩
                · have hk2' : ¬ k2 ≤ (m - k1) ∨ ¬ 0 < k2 := by omega
                  by_cases hk3 : 0 < k2
                  · have hk4 : ¬ k2 ≤ (m - k1) := by omega
                    clear hk2 hk2'
                    go_wp2_with fail
                    exact ⟨⟨k + 1, (m - k1), L9, by go_num, rfl, by omega, HOW9.out, HB10.out, HI2.out.mono (by omega) (by omega)⟩, by simp only [intOf]; omega⟩
                  · clear hk2 hk2'
                    go_wp2_with fail
                    exact ⟨⟨k + 1, (m - k1), L9, by go_num, rfl, by omega, HOW9.out, HB10.out, HI2.out.mono (by omega) (by omega)⟩, by simp only [intOf]; omega⟩
              · by_cases hk13 : 0 < k1
                · have hk14 : ¬ k1 ≤ m := by omega
                  clear hk1
                  go_wp2_with fail
                  refine (pick_calls y 7 (by omega) _).mono ?_
                  rintro e w8 ⟨k2, rfl, h21, h22, rfl⟩
                  by_cases hk2 : 0 < k2 ∧ k2 ≤ m
                  · obtain ⟨hk21, hk22⟩ := hk2
                    have HL1 : Hd ((L).length + 1 ≤ maxLen) := ⟨by have := HI.out.len; unfold maxLen; omega⟩
                    have HL2 : Hd (((L).length + 1) * 32 ≤ 140737488355328) := ⟨by have := HI.out.len; omega⟩
                    have HL3 : Hd (w.heap.size ≤ w8.heap.size) := ⟨HB2.out.size⟩
                    have HK2 := Hd.mk (And.intro hk21 hk22)
                    go_wp2_with (at_builtin; refine append_lit' el_part #[.int .i64 0, .int .i64 k2, .string ⟨#[]⟩] HOW2.out rfl rfl rfl rfl (by simp) rfl (one3 rfl rfl rfl) HL1.out HL2.out HL3.out ?_; intro v7 w7 hown7 hbel7 hgr7 hnew7; obtain ⟨A7, k7, rfl⟩ := own_form hown7; have HO7 := Hd.mk hown7; have HB7 := Hd.mk hbel7; clear hown7 hbel7 hgr7 hnew7)
                    exact ⟨⟨k + 1, m - k2, L ++ [(⟨0, k2, []⟩ : PT)], by go_num, rfl, by omega, by rw [opv_append, opv_one, List.length_append]; exact HO7.out, HB2.out.trans HB7.out, (HI.out.drop_ HK2.out).mono (by omega) (by omega)⟩, by simp only [intOf]; omega⟩
                  · have hk2' : ¬ k2 ≤ m ∨ ¬ 0 < k2 := by omega
                    by_cases hk3 : 0 < k2
                    · have hk4 : ¬ k2 ≤ m := by omega
                      clear hk2 hk2'
                      go_wp2_with fail
                      exact ⟨⟨k + 1, m, L, by go_num, rfl, by omega, HOW2.out, HB2.out, HI.out.mono (by omega) (by omega)⟩, by simp only [intOf]; omega⟩
                    · clear hk2 hk2'
                      go_wp2_with fail
                      exact ⟨⟨k + 1, m, L, by go_num, rfl, by omega, HOW2.out, HB2.out, HI.out.mono (by omega) (by omega)⟩, by simp only [intOf]; omega⟩
                · clear hk1
                  go_wp2_with fail
                  refine (pick_calls y 7 (by omega) _).mono ?_
                  rintro e w8 ⟨k2, rfl, h21, h22, rfl⟩
                  by_cases hk2 : 0 < k2 ∧ k2 ≤ m
                  · obtain ⟨hk21, hk22⟩ := hk2
                    have HL1 : Hd ((L).length + 1 ≤ maxLen) := ⟨by have := HI.out.len; unfold maxLen; omega⟩
                    have HL2 : Hd (((L).length + 1) * 32 ≤ 140737488355328) := ⟨by have := HI.out.len; omega⟩
                    have HL3 : Hd (w.heap.size ≤ w8.heap.size) := ⟨HB2.out.size⟩
                    have HK2 := Hd.mk (And.intro hk21 hk22)
                    go_wp2_with (at_builtin; refine append_lit' el_part #[.int .i64 0, .int .i64 k2, .string ⟨#[]⟩] HOW2.out rfl rfl rfl rfl (by simp) rfl (one3 rfl rfl rfl) HL1.out HL2.out HL3.out ?_; intro v7 w7 hown7 hbel7 hgr7 hnew7; obtain ⟨A7, k7, rfl⟩ := own_form hown7; have HO7 := Hd.mk hown7; have HB7 := Hd.mk hbel7; clear hown7 hbel7 hgr7 hnew7)
                    exact ⟨⟨k + 1, m - k2, L ++ [(⟨0, k2, []⟩ : PT)], by go_num, rfl, by omega, by rw [opv_append, opv_one, List.length_append]; exact HO7.out, HB2.out.trans HB7.out, (HI.out.drop_ HK2.out).mono (by omega) (by omega)⟩, by simp only [intOf]; omega⟩
                  · have hk2' : ¬ k2 ≤ m ∨ ¬ 0 < k2 := by omega
                    by_cases hk3 : 0 < k2
                    · have hk4 : ¬ k2 ≤ m := by omega
                      clear hk2 hk2'
                      go_wp2_with fail
                      exact ⟨⟨k + 1, m, L, by go_num, rfl, by omega, HOW2.out, HB2.out, HI.out.mono (by omega) (by omega)⟩, by simp only [intOf]; omega⟩
                    · clear hk2 hk2'
                      go_wp2_with fail
                      exact ⟨⟨k + 1, m, L, by go_num, rfl, by omega, HOW2.out, HB2.out, HI.out.mono (by omega) (by omega)⟩, by simp only [intOf]; omega⟩
            · have hz2 : (z == []) = false := by rw [beq_eq_false_iff_ne]; exact hz0
              have HZ0 := Hd.mk hz0
              have HPB := Hd.mk (hpb1.alloc (.cells #[.int .i64 (cnt rs).b, .int .i64 (cnt rs).h, .int .i64 (cnt rs).r, .int .i64 (cnt rs).l] 63))
              have HOW2 := Hd.mk (HOW1.out.alloc (.cells #[.int .i64 (cnt rs).b, .int .i64 (cnt rs).h, .int .i64 (cnt rs).r, .int .i64 (cnt rs).l] 63))
              have HB2 := Hd.mk (ex_alloc HB1.out (.cells #[.int .i64 (cnt rs).b, .int .i64 (cnt rs).h, .int .i64 (cnt rs).r, .int .i64 (cnt rs).l] 63))
              obtain ⟨P0, P1, P2⟩ := cut_cells HPB.out
              have HL1 : Hd (L.length + 1 ≤ maxLen) := ⟨by have := HI.out.len; unfold maxLen; omega⟩
              have HL2 : Hd ((L.length + 1) * 32 ≤ 140737488355328) := ⟨by have := HI.out.len; omega⟩
              have HL3 : Hd (w.heap.size ≤ (w1.alloc (.cells #[.int .i64 (cnt rs).b, .int .i64 (cnt rs).h, .int .i64 (cnt rs).r, .int .i64 (cnt rs).l] 63)).heap.size) := ⟨HB2.out.size⟩
              have HSR : Hd (U.Sp z rs []) := ⟨by have := HSP.out; rwa [hr] at this⟩
              clear hpb1 hz0
              go_wp2_with (at_builtin; refine append_lit' el_part #[.int .i64 0, .int .i64 0, .string ⟨z.toArray⟩] HOW2.out rfl rfl rfl rfl (by simp) rfl (one3 rfl rfl rfl) HL1.out HL2.out HL3.out ?_; intro v7 w7 hown7 hbel7 hgr7 hnew7; obtain ⟨A7, k7, rfl⟩ := own_form hown7; have HO7 := Hd.mk hown7; have HB7 := Hd.mk hbel7; clear hown7 hbel7 hgr7 hnew7)
              exact ⟨⟨k + 1, m, L ++ [(⟨0, 0, z⟩ : PT)], by go_num, rfl, by omega, by rw [opv_append, opv_one, List.length_append]; exact HO7.out, HB2.out.trans HB7.out, (HI.out.put_ HZ0.out HSR.out HZL.out).mono (by omega) (by omega)⟩, by simp only [intOf]; omega⟩
          · obtain ⟨g, rfl, -⟩ := hno hr
            clear hok hno
            have hz0 : (z == []) = false := by
              rw [beq_eq_false_iff_ne]
              rintro rfl
              exact hr (HSP.out.unique (U.sp_encs (rs := []) (fun r hr => by cases hr))).2
            have HPB := Hd.mk (hpb1.alloc (.cells #[.int .i64 Cn.zero.b, .int .i64 Cn.zero.h, .int .i64 Cn.zero.r, .int .i64 Cn.zero.l] 63))
            have HOW2 := Hd.mk (HOW1.out.alloc (.cells #[.int .i64 Cn.zero.b, .int .i64 Cn.zero.h, .int .i64 Cn.zero.r, .int .i64 Cn.zero.l] 63))
            have HB2 := Hd.mk (ex_alloc HB1.out (.cells #[.int .i64 Cn.zero.b, .int .i64 Cn.zero.h, .int .i64 Cn.zero.r, .int .i64 Cn.zero.l] 63))
            obtain ⟨P0, P1, P2⟩ := cut_cells HPB.out
            clear hpb1
            unfold atV
            go_wp2_with fail
            refine (pick_calls x 12 (by omega) _).mono ?_
            rintro e w3 ⟨k1, rfl, h11, h12, rfl⟩
            by_cases hk11 : 0 < k1
            · by_cases hk12 : k1 ≤ m
              all_goals
                go_wp2_with fail
                refine (pick_calls y 7 (by omega) _).mono ?_
                rintro e w8 ⟨k2, rfl, h21, h22, rfl⟩
                by_cases hk21 : 0 < k2
                · by_cases hk22 : k2 ≤ m
                  all_goals
                    go_wp2_with fail
                    exact ⟨⟨k + 1, m, L, by go_num, rfl, by omega, HOW2.out, HB2.out, HI.out.mono (by omega) (by omega)⟩, by simp only [intOf]; omega⟩
                · go_wp2_with fail
                  exact ⟨⟨k + 1, m, L, by go_num, rfl, by omega, HOW2.out, HB2.out, HI.out.mono (by omega) (by omega)⟩, by simp only [intOf]; omega⟩
            · go_wp2_with fail
              refine (pick_calls y 7 (by omega) _).mono ?_
              rintro e w8 ⟨k2, rfl, h21, h22, rfl⟩
              by_cases hk21 : 0 < k2
              · by_cases hk22 : k2 ≤ m
                all_goals
                  go_wp2_with fail
                  exact ⟨⟨k + 1, m, L, by go_num, rfl, by omega, HOW2.out, HB2.out, HI.out.mono (by omega) (by omega)⟩, by simp only [intOf]; omega⟩
              · go_wp2_with fail
                exact ⟨⟨k + 1, m, L, by go_num, rfl, by omega, HOW2.out, HB2.out, HI.out.mono (by omega) (by omega)⟩, by simp only [intOf]; omega⟩
      · by_cases hmz : 0 < m
        · have HL1 : Hd (L.length + 1 ≤ maxLen) := ⟨by have := HI.out.len; unfold maxLen; omega⟩
          have HL2 : Hd ((L.length + 1) * 32 ≤ 140737488355328) := ⟨by have := HI.out.len; omega⟩
          have HL3 : Hd (w.heap.size ≤ wr.heap.size) := ⟨HB.out.size⟩
          have HF : Hd (FitI N (m - m) (2 * k + 1) (150 * k) (L ++ [(⟨m, 0, []⟩ : PT)])) := ⟨HI.out.keep_ ⟨hmz, Int.le_refl _⟩⟩
          clear hown hbel hI
          go_wp2_with (at_builtin; refine append_lit' el_part #[.int .i64 m, .int .i64 0, .string ⟨#[]⟩] HOW.out rfl rfl rfl rfl (by simp) rfl (one3 rfl rfl rfl) HL1.out HL2.out HL3.out ?_; intro v7 w7 hown7 hbel7 hgr7 hnew7; obtain ⟨A7, k7, rfl⟩ := own_form hown7; have HO7 := Hd.mk hown7; have HB7 := Hd.mk hbel7; clear hown7 hbel7 hgr7 hnew7)
          go_ret
          have HS := Sl.of_own HO7.out
          refine ⟨⟨HB.out.trans HB7.out, _, L ++ [(⟨m, 0, []⟩ : PT)], rfl, by rw [opv_append, opv_one, List.length_append]; exact HS, HF.out.good, by have := HF.out.tot; omega, by have := HF.out.put; omega, by have := HF.out.len; omega⟩, frE1 (Frs.of_own HO7.out)⟩
        · have HS := Hd.mk (And.intro (Sl.of_own hown) (Frs.of_own hown))
          clear hown hbel hI
          go_wp2_with fail
          go_ret
          exact ⟨⟨HB.out, _, L, rfl, HS.out.1, HI.out.good, by have := HI.out.tot; have := HI.out.m0; omega, by have := HI.out.put; omega, by have := HI.out.len; omega⟩, frE1 HS.out.2⟩
    · by_cases hmz : 0 < m
      · have HL1 : Hd (L.length + 1 ≤ maxLen) := ⟨by have := HI.out.len; unfold maxLen; omega⟩
        have HL2 : Hd ((L.length + 1) * 32 ≤ 140737488355328) := ⟨by have := HI.out.len; omega⟩
        have HL3 : Hd (w.heap.size ≤ wr.heap.size) := ⟨HB.out.size⟩
        have HF : Hd (FitI N (m - m) (2 * k + 1) (150 * k) (L ++ [(⟨m, 0, []⟩ : PT)])) := ⟨HI.out.keep_ ⟨hmz, Int.le_refl _⟩⟩
        clear hown hbel hI
        go_wp2_with (at_builtin; refine append_lit' el_part #[.int .i64 m, .int .i64 0, .string ⟨#[]⟩] HOW.out rfl rfl rfl rfl (by simp) rfl (one3 rfl rfl rfl) HL1.out HL2.out HL3.out ?_; intro v7 w7 hown7 hbel7 hgr7 hnew7; obtain ⟨A7, k7, rfl⟩ := own_form hown7; have HO7 := Hd.mk hown7; have HB7 := Hd.mk hbel7; clear hown7 hbel7 hgr7 hnew7)
        go_ret
        have HS := Sl.of_own HO7.out
        refine ⟨⟨HB.out.trans HB7.out, _, L ++ [(⟨m, 0, []⟩ : PT)], rfl, by rw [opv_append, opv_one, List.length_append]; exact HS, HF.out.good, by have := HF.out.tot; omega, by have := HF.out.put; omega, by have := HF.out.len; omega⟩, frE1 (Frs.of_own HO7.out)⟩
      · have HS := Hd.mk (And.intro (Sl.of_own hown) (Frs.of_own hown))
        clear hown hbel hI
        go_wp2_with fail
        go_ret
        exact ⟨⟨HB.out, _, L, rfl, HS.out.1, HI.out.good, by have := HI.out.tot; have := HI.out.m0; omega, by have := HI.out.put; omega, by have := HI.out.len; omega⟩, frE1 HS.out.2⟩
end
end Go.Proofs.YtdgdajnbkfmijaaGreatDoor
/- Operations rune by rune, as operations in bytes: transform and compose of the one are those of the other one. Plain. -/
namespace Go.Proofs.YtdgdajnbkfmijaaGreatDoor
/-- An operation over runes, byte by byte. -/
def bexp : List (RU Int) → List Int → List PT
  | .p r :: X, R => (U.enc r).map PT.byte ++ bexp X R
  | .k :: X, r :: R => List.replicate (U.wid r) PT.k1 ++ bexp X R
  | .d :: X, r :: R => List.replicate (U.wid r) PT.d1 ++ bexp X R
  | _, _ => []
theorem wid_succ (r : Int) : ∃ n, U.wid r = n + 1 := ⟨U.wid r - 1, by have := U.wid_pos r; omega⟩
theorem hput_unit (r : Int) (u : Bool) (x : List PT) : hput (List.replicate (U.wid r) (unit u) ++ x) = false := by
  obtain ⟨n, e⟩ := wid_succ r
  rw [e, List.replicate_succ]
  exact isPut_unit u
theorem hput_bk (q : Int) (Y : List (RU Int)) (R : List Int) : hput (bexp (.k :: Y) (q :: R)) = false := hput_unit q false _
theorem hput_bd (q : Int) (Y : List (RU Int)) (R : List Int) : hput (bexp (.d :: Y) (q :: R)) = false := hput_unit q true _
theorem hdrop_k (r : Int) (x : List PT) : ¬ hdrop (List.replicate (U.wid r) PT.k1 ++ x) := by
  obtain ⟨n, e⟩ := wid_succ r
  rw [e, List.replicate_succ]
  show ¬ (0 : Int) < PT.k1.drop
  decide
theorem enc_cons (r : Int) : ∃ c b, U.enc r = c :: b := by
  have := U.enc_length r
  have h2 := U.wid_pos r
  match h : U.enc r with
  | [] => rw [h] at this; simp at this; omega
  | c :: b => exact ⟨c, b, rfl⟩
theorem hdrop_p (r : Int) (x : List PT) : ¬ hdrop ((U.enc r).map PT.byte ++ x) := by
  obtain ⟨c, b, e⟩ := enc_cons r
  rw [e]
  show ¬ (0 : Int) < (PT.byte c).drop
  simp [PT.byte]
theorem tr_bexp {first : Bool} {X Y : List (RU Int)} {R : List Int} (hx : rwas X = R.length) (hy : rwas Y = R.length) : tr first (bexp X R) (bexp Y R) = bexp (rtr first X Y) (rap Y R) := by
  generalize hm : X.length + Y.length = m
  induction m using Nat.strongRecOn generalizing X Y R with
  | _ m ih =>
    have step : ∀ (X' Y' : List (RU Int)) (R' : List Int), X'.length + Y'.length < m → rwas X' = R'.length → rwas Y' = R'.length → tr first (bexp X' R') (bexp Y' R') = bexp (rtr first X' Y') (rap Y' R') := fun X' Y' R' h1 h2 h3 => ih _ h1 h2 h3 rfl
    clear ih
    match X, Y, R with
    | [], [], R => simp [bexp, rtr, tr, rap]
    | .p r :: X, [], R =>
      have := step X [] R (by simp at hm ⊢; omega) hx hy
      rw [show bexp (.p r :: X) R = (U.enc r).map PT.byte ++ bexp X R from rfl, tr_put _ _ _ (.inr (by simp [bexp, hput])), this]
      simp [rtr, bexp]
    | [], .p r :: Y, R =>
      have := step [] Y R (by simp at hm ⊢; omega) hx hy
      rw [show bexp (.p r :: Y) R = (U.enc r).map PT.byte ++ bexp Y R from rfl, tr_keep _ _ _ (.inr (by simp [bexp, hput])), this, U.enc_length]
      simp [rtr, bexp, rap]
    | .k :: X, [], R => simp [rwas] at hx hy; omega
    | .d :: X, [], R => simp [rwas] at hx hy; omega
    | [], .k :: X, R => simp [rwas] at hx hy; omega
    | [], .d :: X, R => simp [rwas] at hx hy; omega
    | .p r :: X, .p s :: Y, R =>
      cases hf : first with
      | true =>
        subst hf
        have := step X (.p s :: Y) R (by simp at hm ⊢; omega) hx hy
        rw [show bexp (.p r :: X) R = (U.enc r).map PT.byte ++ bexp X R from rfl, tr_put _ _ _ (.inl rfl), this]
        simp [rtr, bexp]
      | false =>
        subst hf
        have := step (.p r :: X) Y R (by simp at hm ⊢; omega) hx hy
        rw [show bexp (.p s :: Y) R = (U.enc s).map PT.byte ++ bexp Y R from rfl, tr_keep _ _ _ (.inl rfl), this, U.enc_length]
        simp [rtr, bexp, rap]
    | .p r :: X, .k :: Y, [] => simp [rwas] at hy
    | .p r :: X, .d :: Y, [] => simp [rwas] at hy
    | .p r :: X, .k :: Y, q :: R =>
      have := step X (.k :: Y) (q :: R) (by simp at hm ⊢; omega) hx hy
      rw [show bexp (.p r :: X) (q :: R) = (U.enc r).map PT.byte ++ bexp X (q :: R) from rfl, tr_put _ _ _ (.inr (hput_bk q _ _)), this]
      simp [rtr, bexp]
    | .p r :: X, .d :: Y, q :: R =>
      have := step X (.d :: Y) (q :: R) (by simp at hm ⊢; omega) hx hy
      rw [show bexp (.p r :: X) (q :: R) = (U.enc r).map PT.byte ++ bexp X (q :: R) from rfl, tr_put _ _ _ (.inr (hput_bd q _ _)), this]
      simp [rtr, bexp]
    | .k :: X, .p s :: Y, [] => simp [rwas] at hx
    | .d :: X, .p s :: Y, [] => simp [rwas] at hx
    | .k :: X, .p s :: Y, q :: R =>
      have := step (.k :: X) Y (q :: R) (by simp at hm ⊢; omega) hx hy
      rw [show bexp (.p s :: Y) (q :: R) = (U.enc s).map PT.byte ++ bexp Y (q :: R) from rfl, tr_keep _ _ _ (.inr (hput_bk q _ _)), this, U.enc_length]
      simp [rtr, bexp, rap]
    | .d :: X, .p s :: Y, q :: R =>
      have := step (.d :: X) Y (q :: R) (by simp at hm ⊢; omega) hx hy
      rw [show bexp (.p s :: Y) (q :: R) = (U.enc s).map PT.byte ++ bexp Y (q :: R) from rfl, tr_keep _ _ _ (.inr (hput_bd q _ _)), this, U.enc_length]
      simp [rtr, bexp, rap]
    | .k :: X, .k :: Y, [] => simp [rwas] at hx
    | .k :: X, .d :: Y, [] => simp [rwas] at hx
    | .d :: X, .k :: Y, [] => simp [rwas] at hx
    | .d :: X, .d :: Y, [] => simp [rwas] at hx
    | .k :: X, .k :: Y, q :: R =>
      have := step X Y R (by simp at hm ⊢; omega) (by simpa [rwas] using hx) (by simpa [rwas] using hy)
      have h2 := tr_both (first := first) (U.wid q) false false (bexp X R) (bexp Y R)
      rw [this] at h2
      simpa [rtr, bexp, rap, unit] using h2
    | .k :: X, .d :: Y, q :: R =>
      have := step X Y R (by simp at hm ⊢; omega) (by simpa [rwas] using hx) (by simpa [rwas] using hy)
      have h2 := tr_both (first := first) (U.wid q) false true (bexp X R) (bexp Y R)
      rw [this] at h2
      simpa [rtr, bexp, rap, unit] using h2
    | .d :: X, .k :: Y, q :: R =>
      have := step X Y R (by simp at hm ⊢; omega) (by simpa [rwas] using hx) (by simpa [rwas] using hy)
      have h2 := tr_both (first := first) (U.wid q) true false (bexp X R) (bexp Y R)
      rw [this] at h2
      simpa [rtr, bexp, rap, unit] using h2
    | .d :: X, .d :: Y, q :: R =>
      have := step X Y R (by simp at hm ⊢; omega) (by simpa [rwas] using hx) (by simpa [rwas] using hy)
      have h2 := tr_both (first := first) (U.wid q) true true (bexp X R) (bexp Y R)
      rw [this] at h2
      simpa [rtr, bexp, rap, unit] using h2
theorem cm_bexp {X Y : List (RU Int)} {R : List Int} (hx : rwas X = R.length) (hy : rwas Y = rlen X) : cm (bexp X R) (bexp Y (rap X R)) = bexp (rcm X Y) R := by
  generalize hm : X.length + Y.length = m
  induction m using Nat.strongRecOn generalizing X Y R with
  | _ m ih =>
    have step : ∀ (X' Y' : List (RU Int)) (R' : List Int), X'.length + Y'.length < m → rwas X' = R'.length → rwas Y' = rlen X' → cm (bexp X' R') (bexp Y' (rap X' R')) = bexp (rcm X' Y') R' := fun X' Y' R' h1 h2 h3 => ih _ h1 h2 h3 rfl
    clear ih
    match X, Y, R with
    | .d :: X, Y, [] => simp [rwas] at hx
    | .d :: X, Y, q :: R =>
      have := step X Y R (by simp at hm ⊢; omega) (by simpa [rwas] using hx) hy
      rw [show bexp (.d :: X) (q :: R) = List.replicate (U.wid q) PT.d1 ++ bexp X R from rfl, cm_drop, show rap (.d :: X) (q :: R) = rap X R from rfl, this]
      simp [rcm, bexp]
    | .p r :: X, .p s :: Y, R =>
      have := step (.p r :: X) Y R (by simp at hm ⊢; omega) hx hy
      rw [show ∀ S, bexp (.p s :: Y) S = (U.enc s).map PT.byte ++ bexp Y S from fun _ => rfl, cm_put _ _ _ (show ¬ hdrop (bexp (.p r :: X) R) from hdrop_p r _), this]
      simp [rcm, bexp]
    | .k :: X, .p s :: Y, [] => simp [rwas] at hx
    | .k :: X, .p s :: Y, q :: R =>
      have := step (.k :: X) Y (q :: R) (by simp at hm ⊢; omega) hx hy
      rw [show ∀ S, bexp (.p s :: Y) S = (U.enc s).map PT.byte ++ bexp Y S from fun _ => rfl, cm_put _ _ _ (show ¬ hdrop (bexp (.k :: X) (q :: R)) from hdrop_k q _), this]
      simp [rcm, bexp]
    | [], .p s :: Y, R =>
      have := step [] Y R (by simp at hm ⊢; omega) hx hy
      rw [show ∀ S, bexp (.p s :: Y) S = (U.enc s).map PT.byte ++ bexp Y S from fun _ => rfl, cm_put _ _ _ (by simp [bexp, hdrop]), this]
      simp [rcm, bexp]
    | .p r :: X, .k :: Y, R =>
      have := step X Y R (by simp at hm ⊢; omega) hx (by simpa [rwas, rlen] using hy)
      have h2 := cm_pk (U.enc r) false (bexp X R) (bexp Y (rap X R))
      rw [this, U.enc_length] at h2
      simpa [rcm, bexp, rap, unit] using h2
    | .p r :: X, .d :: Y, R =>
      have := step X Y R (by simp at hm ⊢; omega) hx (by simpa [rwas, rlen] using hy)
      have h2 := cm_pk (U.enc r) true (bexp X R) (bexp Y (rap X R))
      rw [this, U.enc_length] at h2
      simpa [rcm, bexp, rap, unit] using h2
    | .k :: X, .k :: Y, [] => simp [rwas] at hx
    | .k :: X, .d :: Y, [] => simp [rwas] at hx
    | .k :: X, .k :: Y, q :: R =>
      have := step X Y R (by simp at hm ⊢; omega) (by simpa [rwas] using hx) (by simpa [rwas, rlen] using hy)
      have h2 := cm_kk (U.wid q) false (bexp X R) (bexp Y (rap X R))
      rw [this] at h2
      simpa [rcm, bexp, rap, unit] using h2
    | .k :: X, .d :: Y, q :: R =>
      have := step X Y R (by simp at hm ⊢; omega) (by simpa [rwas] using hx) (by simpa [rwas, rlen] using hy)
      have h2 := cm_kk (U.wid q) true (bexp X R) (bexp Y (rap X R))
      rw [this] at h2
      simpa [rcm, bexp, rap, unit] using h2
    | .p r :: X, [], R => simp [rwas, rlen] at hy
    | .k :: X, [], R => simp [rwas, rlen] at hy
    | [], .k :: Y, R => simp [rwas, rlen] at hy
    | [], .d :: Y, R => simp [rwas, rlen] at hy
    | [], [], R => simp [rcm, bexp, cm]
/-- Parts that do, each by itself, what an operation over runes does. -/
inductive OpR : List PT → List (RU Int) → List Int → Prop
  | nil : OpR [] [] []
  | put {rs l X R} : rs ≠ [] → U.AllR rs → OpR l X R → OpR (⟨0, 0, U.encs rs⟩ :: l) (rs.map .p ++ X) R
  | keep {rs l X R} : rs ≠ [] → OpR l X R → OpR (⟨bl rs, 0, []⟩ :: l) (List.replicate rs.length .k ++ X) (rs ++ R)
  | drop {rs l X R} : rs ≠ [] → OpR l X R → OpR (⟨0, bl rs, []⟩ :: l) (List.replicate rs.length .d ++ X) (rs ++ R)
theorem OpR.append {a b : List PT} {X Y : List (RU Int)} {R S : List Int} (h : OpR a X R) (k : OpR b Y S) : OpR (a ++ b) (X ++ Y) (R ++ S) := by
  induction h with
  | nil => exact k
  | put h1 h2 _ ih => rw [List.append_assoc]; exact .put h1 h2 ih
  | keep h1 _ ih => rw [List.append_assoc, List.append_assoc]; exact .keep h1 ih
  | drop h1 _ ih => rw [List.append_assoc, List.append_assoc]; exact .drop h1 ih
theorem rwas_ps (rs : List Int) (X : List (RU Int)) : rwas (rs.map .p ++ X) = rwas X := by
  induction rs with
  | nil => rfl
  | cons r rs ih => exact ih
theorem rwas_ks (n : Nat) (X : List (RU Int)) : rwas (List.replicate n .k ++ X) = n + rwas X := by
  induction n with
  | zero => simp
  | succ n ih => simp only [List.replicate_succ, List.cons_append, rwas, ih]; omega
theorem OpR.was_ {l : List PT} {X : List (RU Int)} {R : List Int} (h : OpR l X R) : rwas X = R.length := by
  induction h with
  | nil => rfl
  | put _ _ _ ih => rw [rwas_ps, ih]
  | keep _ _ ih => rw [rwas_ks, ih, List.length_append]
  | drop _ _ ih => rw [rwas_append, rwas_ds, ih, List.length_append]
theorem bexp_ps (rs : List Int) (X : List (RU Int)) (R : List Int) : bexp (rs.map .p ++ X) R = (U.encs rs).map PT.byte ++ bexp X R := by
  induction rs with
  | nil => rfl
  | cons r rs ih => simp only [List.map_cons, List.cons_append, bexp, ih, U.encs_cons, List.map_append, List.append_assoc]
theorem bexp_ks (rs : List Int) (X : List (RU Int)) (R : List Int) : bexp (List.replicate rs.length .k ++ X) (rs ++ R) = List.replicate (bl rs) PT.k1 ++ bexp X R := by
  induction rs with
  | nil => rfl
  | cons r rs ih => simp only [List.length_cons, List.replicate_succ, List.cons_append, bexp, ih, bl_cons]; rw [← List.append_assoc, List.replicate_append_replicate]
theorem bexp_ds (rs : List Int) (X : List (RU Int)) (R : List Int) : bexp (List.replicate rs.length .d ++ X) (rs ++ R) = List.replicate (bl rs) PT.d1 ++ bexp X R := by
  induction rs with
  | nil => rfl
  | cons r rs ih => simp only [List.length_cons, List.replicate_succ, List.cons_append, bexp, ih, bl_cons]; rw [← List.append_assoc, List.replicate_append_replicate]
theorem encs_ne {rs : List Int} (h : rs ≠ []) : U.encs rs ≠ [] := fun e => by
  have := bl_pos h
  unfold bl at this
  rw [e] at this
  simp at this
theorem sp_nil : U.Sp [] [] [] := U.sp_encs (rs := []) (fun r hr => by cases hr)
theorem OpR.arg {l : List PT} {X : List (RU Int)} {R : List Int} (h : OpR l X R) : ∀ p ∈ l, p.Good := by
  induction h with
  | nil => intro p hp; simp at hp
  | put h1 h2 _ ih =>
    intro p hp
    rcases List.mem_cons.1 hp with rfl | hp
    · exact ⟨PT.arg_put (encs_ne h1), _, U.sp_encs h2⟩
    · exact ih p hp
  | keep h1 _ ih =>
    intro p hp
    rcases List.mem_cons.1 hp with rfl | hp
    · exact ⟨PT.arg_keep (by have := bl_pos h1; omega), [], sp_nil⟩
    · exact ih p hp
  | drop h1 _ ih =>
    intro p hp
    rcases List.mem_cons.1 hp with rfl | hp
    · exact ⟨PT.arg_drop (by have := bl_pos h1; omega), [], sp_nil⟩
    · exact ih p hp
theorem OpR.expand_ {l : List PT} {X : List (RU Int)} {R : List Int} (h : OpR l X R) : expand l = bexp X R := by
  induction h with
  | nil => rfl
  | put h1 h2 _ ih => rw [expand_cons, exp_put, bexp_ps, ih]
  | keep h1 _ ih =>
    have := bl_pos h1
    rw [expand_cons, bexp_ks, ih]
    simp [PT.exp]
  | drop h1 _ ih =>
    have := bl_pos h1
    rw [expand_cons, bexp_ds, ih]
    congr 1
    unfold PT.exp
    rw [if_neg (by simp), if_pos (by dsimp only; omega)]
    simp
theorem OpR.sizes {l : List PT} {X : List (RU Int)} {R : List Int} (h : OpR l X R) : was l = bl R ∧ comes l = bl (rap X R) := by
  induction h with
  | nil => exact ⟨rfl, rfl⟩
  | @put rs l X R h1 h2 _ ih =>
    have e : rap (rs.map .p ++ X) R = rs ++ rap X R := by
      clear h1 h2 ih
      induction rs with
      | nil => rfl
      | cons r rs ih2 => simp only [List.map_cons, List.cons_append, rap, ih2]
    rw [was, comes, e, bl_append, ih.1, ih.2]
    unfold bl
    constructor <;> dsimp only <;> omega
  | @keep rs l X R h1 _ ih =>
    have e : rap (List.replicate rs.length .k ++ X) (rs ++ R) = rs ++ rap X R := by
      clear h1 ih
      induction rs with
      | nil => rfl
      | cons r rs ih2 => simp only [List.length_cons, List.replicate_succ, List.cons_append, rap, ih2]
    rw [was, comes, e, bl_append, bl_append, ih.1, ih.2]
    constructor <;> dsimp only [List.length_nil] <;> omega
  | @drop rs l X R h1 _ ih =>
    have e : rap (List.replicate rs.length .d ++ X) (rs ++ R) = rap X R := by
      clear h1 ih
      induction rs with
      | nil => rfl
      | cons r rs ih2 => simp only [List.length_cons, List.replicate_succ, List.cons_append, rap, ih2]
    rw [was, comes, e, bl_append, ih.1, ih.2]
    constructor <;> dsimp only [List.length_nil] <;> omega
end Go.Proofs.YtdgdajnbkfmijaaGreatDoor
/- An operation in other units, in plain Lean. -/
namespace Go.Proofs.YtdgdajnbkfmijaaGreatDoor
open Go.RowKit
/-- What Ahead tells, as a function. -/
noncomputable def ah (u at_ : Int) (R : List Int) : Cn × Int := by
  classical
  exact if h : ∃ x : Cn × Int, AheadR u at_ R x.1 (erV x.2) then Classical.choose h else (Cn.zero, 0)
theorem ah_eq {u at_ : Int} {R : List Int} {c : Cn} {k : Int} (h : AheadR u at_ R c (erV k)) : ah u at_ R = (c, k) := by
  have hx : ∃ x : Cn × Int, AheadR u at_ R x.1 (erV x.2) := ⟨(c, k), h⟩
  have h2 := Classical.choose_spec hx
  obtain ⟨e1, e2⟩ := h2.unique h
  unfold ah
  rw [dif_pos hx]
  exact Prod.ext e1 (erV_inj e2)
/-- A part, turned: its own number by the other unit. -/
def tnP (p : PT) (x : Int) : PT := if 0 < p.keep then ⟨x, p.drop, p.put⟩ else if 0 < p.drop then ⟨p.keep, x, p.put⟩ else p
/-- An operation, turned, from a place on; and what is told. -/
noncomputable def tnF (R : List Int) (u tu : Int) : Cn → Int → List PT → List PT × Int
  | _, _, [] => ([], 0)
  | c, a, p :: l => if (ah u (a + (p.keep + p.drop)) R).2 = 0
    then (tnP p ((ah u (a + (p.keep + p.drop)) R).1.of tu - c.of tu) :: (tnF R u tu (ah u (a + (p.keep + p.drop)) R).1 (a + (p.keep + p.drop)) l).1, (tnF R u tu (ah u (a + (p.keep + p.drop)) R).1 (a + (p.keep + p.drop)) l).2)
    else ([], (ah u (a + (p.keep + p.drop)) R).2)
theorem tnF_stop {R : List Int} {u tu a k : Int} {c c' : Cn} {p : PT} {l : List PT} (h : AheadR u (a + (p.keep + p.drop)) R c' (erV k)) (hk : k ≠ 0) : tnF R u tu c a (p :: l) = ([], k) := by
  rw [tnF, ah_eq h, if_neg hk]
theorem tnF_step {R : List Int} {u tu a : Int} {c c' : Cn} {p : PT} {l : List PT} (h : AheadR u (a + (p.keep + p.drop)) R c' (erV 0)) :
    tnF R u tu c a (p :: l) = (tnP p (c'.of tu - c.of tu) :: (tnF R u tu c' (a + (p.keep + p.drop)) l).1, (tnF R u tu c' (a + (p.keep + p.drop)) l).2) := by
  rw [tnF, ah_eq h, if_pos rfl]
theorem tnP_put (b : U.Bs) (x : Int) : tnP ⟨0, 0, b⟩ x = ⟨0, 0, b⟩ := rfl
theorem tnP_drop {n : Nat} (h : 0 < n) (x : Int) : tnP ⟨0, n, []⟩ x = ⟨0, x, []⟩ := by
  have h1 : (0 : Int) < n := by omega
  unfold tnP
  rw [if_neg (by simp), if_pos h1]
theorem tnP_keep {n : Nat} (h : 0 < n) (x : Int) : tnP ⟨n, 0, []⟩ x = ⟨x, 0, []⟩ := by
  have h1 : (0 : Int) < n := by omega
  unfold tnP
  rw [if_pos h1]
theorem e1_all {l : List PT} (h : e1 l = 0) : ∀ p ∈ l, p.Good := by
  induction l with
  | nil => intro p hp; simp at hp
  | cons p l ih =>
    unfold e1 at h
    split at h
    · exact absurd h (by decide)
    · rename_i h1
      split at h
      · exact absurd h (by decide)
      · rename_i h2
        intro q hq
        rcases List.mem_cons.1 hq with rfl | hq
        · exact ⟨Classical.not_not.1 h1, Classical.not_not.1 h2⟩
        · exact ih h q hq
theorem e2_was {l : List PT} {n : Int} (h : e2 n l = 0) : was l = n := by
  induction l generalizing n with
  | nil => unfold e2 at h; rw [was]; split at h <;> omega
  | cons p l ih =>
    unfold e2 at h
    split at h
    · omega
    · rw [was, ih h]; omega
theorem chk_zero {l : List PT} {n : Int} (h : chk l n = 0) : (∀ p ∈ l, p.Good) ∧ was l = n := by
  unfold chk at h
  split at h
  · rename_i h1; exact ⟨e1_all h1, e2_was h⟩
  · rename_i h1; exact absurd h h1
theorem tn_nn {l : List PT} (h : ∀ p ∈ l, p.Good) : 0 ≤ was l := by
  induction l with
  | nil => exact Int.le_refl _
  | cons p l ih =>
    have := (h p (by simp)).1
    have h2 := ih fun q hq => h q (List.mem_cons_of_mem _ hq)
    have h3 := this.2
    rw [was]; omega
/-- Where the loop of a turn is. -/
structure TnI (R : List Int) (u tu : Int) (l : List PT) (m : Int) (k : Nat) (c : Cn) (a : Int) (o : List PT) : Prop where
  k_le : k ≤ l.length
  out : (tnF R u tu Cn.zero 0 l).1 = o ++ (tnF R u tu c a (l.drop k)).1
  err : (tnF R u tu Cn.zero 0 l).2 = (tnF R u tu c a (l.drop k)).2
  len : o.length = k
  a0 : 0 ≤ a
  tot : a + was (l.drop k) = m
  c0 : 0 ≤ c.of tu
  c1 : c.of tu ≤ 1000000
theorem tn_zero (u : Int) : Cn.zero.of u = 0 := by unfold Cn.of; (repeat' split) <;> rfl
theorem TnI.start {R : List Int} {u tu m : Int} {l : List PT} (h : was l = m) : TnI R u tu l m 0 Cn.zero 0 [] :=
  ⟨Nat.zero_le _, rfl, rfl, rfl, Int.le_refl _, by rw [List.drop_zero]; omega, by rw [tn_zero]; exact Int.le_refl _, by rw [tn_zero]; decide⟩
theorem tn_drop {l : List PT} {k : Nat} (hk : k < l.length) : l.drop k = l[k] :: l.drop (k + 1) := List.drop_eq_getElem_cons hk
theorem TnI.bound {R : List Int} {u tu m : Int} {l : List PT} {k : Nat} {c : Cn} {a : Int} {o : List PT} (h : TnI R u tu l m k c a o) (hg : ∀ p ∈ l, p.Good) (hk : k < l.length) : 0 ≤ a + (l[k].keep + l[k].drop) ∧ a + (l[k].keep + l[k].drop) ≤ m ∧ a ≤ m := by
  have h1 := h.tot
  have h2 := tn_nn (l := l.drop (k + 1)) fun p hp => hg p (List.mem_of_mem_drop hp)
  have h3 := (hg _ (List.getElem_mem hk)).1.2
  have h4 := h.a0
  rw [tn_drop hk, was] at h1
  omega
theorem TnI.stop {R : List Int} {u tu m : Int} {l : List PT} {k : Nat} {c c' : Cn} {a e : Int} {o : List PT} (h : TnI R u tu l m k c a o) (hk : k < l.length) (hA : AheadR u (a + (l[k].keep + l[k].drop)) R c' (erV e)) (he : e ≠ 0) : (tnF R u tu Cn.zero 0 l).2 = e := by
  rw [h.err, tn_drop hk, tnF_stop hA he]
theorem AheadR.nil {u at_ : Int} {R : List Int} {c : Cn} (h : AheadR u at_ R c (erV 0)) : Pl u at_ R c := by
  rcases ahead_cases h with ⟨-, hp, -⟩ | ⟨k, e, -, hk, -⟩
  · exact hp
  · exact absurd e (by intro e; cases e)
theorem TnI.step {R : List Int} {u tu m : Int} {l : List PT} {k : Nat} {c c' : Cn} {a : Int} {o : List PT} (h : TnI R u tu l m k c a o) (hg : ∀ p ∈ l, p.Good) (hk : k < l.length) (hR : R.length ≤ 100000) (hA : AheadR u (a + (l[k].keep + l[k].drop)) R c' (erV 0)) :
    TnI R u tu l m (k + 1) c' (a + (l[k].keep + l[k].drop)) (o ++ [tnP l[k] (c'.of tu - c.of tu)]) := by
  have hb := h.bound hg hk
  obtain ⟨p, q, e1, -, rfl⟩ := hA.nil
  have hpl : p.length ≤ 100000 := by have := congrArg List.length e1; rw [List.length_append] at this; omega
  refine ⟨by omega, ?_, ?_, by rw [List.length_append, h.len]; rfl, hb.1, ?_, of_nn _ _, ?_⟩
  · rw [h.out, tn_drop hk, tnF_step hA, List.append_assoc]; rfl
  · rw [h.err, tn_drop hk, tnF_step hA]
  · have := h.tot; rw [tn_drop hk, was] at this; omega
  · have := of_le (rs := p) (Nat.le_refl _) tu; omega
theorem TnI.finish {R : List Int} {u tu m : Int} {l : List PT} {k : Nat} {c : Cn} {a : Int} {o : List PT} (h : TnI R u tu l m k c a o) (hk : k = l.length) : (tnF R u tu Cn.zero 0 l).1 = o ∧ (tnF R u tu Cn.zero 0 l).2 = 0 := by
  have h1 := h.out
  have h2 := h.err
  rw [hk, List.drop_length, tnF] at h1 h2
  exact ⟨by rw [h1, List.append_nil], h2⟩
/-- What a turn tells. -/
def TnR (R : List Int) (l : List PT) (u tu : Int) (o : List PT) (k : Int) : Prop :=
  (¬ ((1 ≤ u ∧ u ≤ 3) ∧ (1 ≤ tu ∧ tu ≤ 3)) → o = [] ∧ k = 1) ∧
  (((1 ≤ u ∧ u ≤ 3) ∧ (1 ≤ tu ∧ tu ≤ 3)) → chk l ((cnt R).of u) ≠ 0 → o = [] ∧ k = chk l ((cnt R).of u)) ∧
  (((1 ≤ u ∧ u ≤ 3) ∧ (1 ≤ tu ∧ tu ≤ 3)) → chk l ((cnt R).of u) = 0 → k = (tnF R u tu Cn.zero 0 l).2 ∧ o = if k = 0 then (tnF R u tu Cn.zero 0 l).1 else [])
theorem TnR.unique {R : List Int} {l o o' : List PT} {u tu k k' : Int} (h : TnR R l u tu o k) (h' : TnR R l u tu o' k') : o = o' ∧ k = k' := by
  obtain ⟨h1, h2, h3⟩ := h
  obtain ⟨g1, g2, g3⟩ := h'
  by_cases hu : (1 ≤ u ∧ u ≤ 3) ∧ (1 ≤ tu ∧ tu ≤ 3)
  · by_cases hc : chk l ((cnt R).of u) = 0
    · obtain ⟨e1, e2⟩ := h3 hu hc
      obtain ⟨f1, f2⟩ := g3 hu hc
      have e : k = k' := e1.trans f1.symm
      subst e
      exact ⟨e2.trans f2.symm, rfl⟩
    · exact ⟨(h2 hu hc).1.trans (g2 hu hc).1.symm, (h2 hu hc).2.trans (g2 hu hc).2.symm⟩
  · exact ⟨(h1 hu).1.trans (g1 hu).1.symm, (h1 hu).2.trans (g1 hu).2.symm⟩
end Go.Proofs.YtdgdajnbkfmijaaGreatDoor
