/- utf.Runes and utf.Halves: what they hand back is new. -/
import Derived.Test.YtdgdajnbkfmijaaGreatDoorMRoomMeets6
import Derived.Test.YtdgdajnbkfmijaaGreatDoorMRoomMeets1
namespace Go.Proofs.YtdgdajnbkfmijaaGreatDoor
open Go.RowKit
set_option maxRecDepth 100000

def RunesN (rs : List Int) (rest : U.Bs) (w : World) (e : Ending) (w' : World) : Prop :=
  Below w.heap.size w w' ∧ (rest = [] → ∃ v, e = .returned (.tuple #[v, .nilIface]) ∧ Sl w' 1 v rs.length (i32s rs) ∧ Frs w.heap.size v) ∧
    (rest ≠ [] → ∃ g, e = .returned (.tuple #[.slice none 0 0, atV g]) ∧ AtBlk w' g 3 (U.off rs rs.length))
def HalvesN (rs : List Int) (rest : U.Bs) (w : World) (e : Ending) (w' : World) : Prop :=
  Below w.heap.size w w' ∧ (rest = [] → ∃ v, e = .returned (.tuple #[v, .nilIface]) ∧ Sl w' 1 v (U.hvs rs).length (u16s (U.hvs rs)) ∧ Frs w.heap.size v) ∧
    (rest ≠ [] → ∃ g, e = .returned (.tuple #[.slice none 0 0, atV g]) ∧ AtBlk w' g 3 (U.off rs rs.length))
section
attribute [local go_sem] ext_drop
set_option maxHeartbeats 1000000 in
theorem runes_new {s : U.Bs} {rs : List Int} {rest : U.Bs} (h : U.Sp s rs rest) (w : World) (hs : s.length ≤ 35184372087808) :
    Calls Tryz.prog 115 #[.string ⟨s.toArray⟩] w (RunesN rs rest w) := by
  have H := Hd.mk h
  have hlen := h.length
  have hll := U.len_le_off rs
  clear h
  have HL := Hd.mk hlen
  have hle : U.off rs rs.length ≤ s.length := by omega
  clear hlen
  have hsz : s.length ≤ 35184372087808 := hs
  clear hs
  go_enter Tryz.func115, Tryz.ntmps115
  go_wp2_with fail
  go_loopw [2, 3, 4, 5] (fun n e v i wr => n = .slice none 0 0 ∧ e = .nilIface ∧ ∃ k : Nat, k ≤ rs.length ∧ i = .int .i64 (U.off rs k) ∧ wr.ownsRow w.heap.size 21 1 v k (i32s (rs.take k)) ∧ Below w.heap.size w wr) (fun _ _ _ i _ => s.length - (intOf i).toNat)
  case atStart => exact ⟨rfl, rfl, 0, by omega, rfl, World.ownsRow_nil _ _ _ _, Below.refl _ _⟩
  case round =>
    obtain ⟨rfl, rfl, k, hk, rfl, hown, hbel⟩ := hrel
    have hok : U.off rs k ≤ U.off rs rs.length := U.off_le hk
    by_cases hlt : k < rs.length
    · have hol : U.off rs k < U.off rs rs.length := U.off_lt hlt
      have HN := Hd.mk (H.out.next_at hlt)
      have HO := Hd.mk (U.off_succ hlt)
      have hw1 := U.wid_pos rs[k]
      have hw2 := U.wid_le rs[k]
      generalize hr : rs[k] = r at *
      have HR := Hd.mk hr
      clear hr
      have hlt' : U.off rs k < s.length := by omega
      have hn0 : ((U.wid r : Int) == 0) = false := by rw [beq_eq_false_iff_ne]; omega
      have hb0 := hbel.size
      have HOS := Hd.mk hown
      clear hown
      go_wp2_with (first | (go_at_call 59; refine (next_at HN.out _ (by rw [List.length_drop]; omega)).mono ?_; rintro e w' ⟨rfl, rfl⟩) | (at_builtin; refine append_lit el_i32 #[.int .i32 r] HOS.out rfl rfl rfl rfl rfl (one1 rfl) (by unfold maxLen; omega) (by omega) hb0 ?_; intro v1 w1 hown1 hbel1 _))
      have e1 : i32s (rs.take (k + 1)) = i32s (rs.take k) ++ #[Value.int .i32 r].toList := by
        rw [List.take_succ_eq_append_getElem hlt, i32s, List.map_append, ← HR.out]; rfl
      rw [← e1] at hown1
      refine ⟨⟨rfl, rfl, k + 1, by omega, by rw [HO.out]; go_num, hown1, hbel.trans hbel1⟩, ?_⟩
      simp only [intOf]; omega
    · obtain rfl : k = rs.length := by omega
      have hfin : Sl wr 1 u4 rs.length (i32s rs) := by
        have := Sl.of_own hown
        rwa [List.take_length] at this
      have hfrs := Hd.mk (Frs.of_own hown)
      clear hown
      by_cases hr : rest = []
      · subst hr
        have hge : ¬ U.off rs rs.length < s.length := by have := HL.out; simp at this; omega
        clear hlt
        go_wp2_with fail
        go_ret2
        exact ⟨hbel, fun _ => ⟨u4, rfl, hfin, hfrs.out⟩, fun h => absurd rfl h⟩
      · have hlt' : U.off rs rs.length < s.length := by
          have := HL.out
          have h2 : 0 < rest.length := List.length_pos_iff.2 hr
          omega
        have HN := Hd.mk H.out.next_end
        have HR := Hd.mk hr
        have hb0 := hbel.size
        clear hlt hfin hr
        go_wp2_with (go_at_call 59; refine (next_at HN.out _ (by rw [List.length_drop]; omega)).mono ?_; rintro e w' ⟨rfl, rfl⟩)
        go_ret2
        exact ⟨hbel.alloc (by omega) _, fun h => absurd h HR.out, fun _ => ⟨wr.heap.size, rfl, heap_alloc_new wr _⟩⟩
end
set_option maxHeartbeats 2000000 in
theorem halves_new {s : U.Bs} {rs : List Int} {rest : U.Bs} (h : U.Sp s rs rest) (w : World) (hs : s.length ≤ 35184372087808) :
    Calls Tryz.prog 111 #[.string ⟨s.toArray⟩] w (HalvesN rs rest w) := by
  by_cases hr : rest = []
  · have hlen := h.length
    have hll := U.len_le_off rs
    have hrl : rs.length ≤ 35184372087808 := by omega
    have H := Hd.mk h
    have HR := Hd.mk hr
    clear hlen hll
    go_enter Tryz.func111, Tryz.ntmps111
    go_wp2_with (go_at_call 115; refine (runes_calls h _ hs).mono ?_; rintro e w1 ⟨hb1, hok, _⟩; obtain ⟨v, rfl, hsl⟩ := hok hr; have HSL := Hd.mk hsl; obtain ⟨A, c, rfl, _⟩ := hsl)
    have HB1 := Hd.mk hb1
    clear hok hb1 h hr hs
    go_loopw [6, 19] (fun b i wr => ∃ k : Nat, k ≤ rs.length ∧ i = .int .i64 k ∧ wr.ownsRow w1.heap.size 205 1 b (U.hoff rs k) (u16s (U.hvs (rs.take k))) ∧ Below w1.heap.size w1 wr) (fun _ i _ => rs.length - (intOf i).toNat)
    case atStart => exact ⟨0, by omega, rfl, World.ownsRow_nil _ _ _ _, Below.refl _ _⟩
    case round =>
      obtain ⟨k, hk, rfl, hown, hbel⟩ := hrel
      have hb0 := hbel.size
      have HB := Hd.mk hbel
      by_cases hkn : k < rs.length
      · obtain ⟨ad, c', u, hv, _, hu, hc⟩ := (HSL.out.below hbel).at_ hkn
        cases hv
        have hu2 : u = .int .i32 rs[k] := by
          unfold i32s at hu
          rw [List.getElem?_map, List.getElem?_eq_getElem hkn] at hu
          simpa using hu.symm
        subst hu2
        have hrr := U.right_iff.1 (H.out.all _ (List.getElem_mem hkn))
        have HHO := Hd.mk (U.hoff_succ hkn)
        have HTK : Hd (U.hvs (rs.take (k + 1)) = U.hvs (rs.take k) ++ U.hv rs[k]) := ⟨by rw [List.take_succ_eq_append_getElem hkn, U.hvs_append, U.hvs_cons, U.hvs_nil, List.append_nil]⟩
        have hol : U.hoff rs k ≤ 2 * k := by
          have := U.hvs_len_le (rs.take k)
          rw [List.length_take] at this
          unfold U.hoff; omega
        generalize rs[k] = r at hrr hc HHO HTK
        have hr0 : 0 ≤ r := by omega
        have hr1 : r ≤ 1114111 := by omega
        have HOW := Hd.mk hown
        clear hrr hown hbel hu
        by_cases hsm : r < 65536
        · have e1 : U.hv r = [r] := by unfold U.hv; rw [if_pos hsm]
          have e2 : U.hwid r = 1 := by unfold U.hwid; rw [if_pos hsm]
          have HE := Hd.mk (And.intro e1 e2)
          clear e1 e2
          go_wp2_with (at_builtin; refine append_lit el_u16 #[.int .u16 r] HOW.out rfl rfl rfl rfl rfl (one1 rfl) (by unfold maxLen; omega) (by omega) hb0 ?_; intro v1 w2 hown1 hbel1 _)
          refine ⟨⟨k + 1, by omega, by go_num, ?_, HB.out.trans hbel1⟩, ?_⟩
          · rw [HHO.out, HTK.out, HE.out.1, HE.out.2, u16s_append]; exact hown1
          · simp only [intOf]; omega
        · have e1 : U.hv r = [55296 + (r - 65536) / 1024, 56320 + (r - 65536) % 1024] := by unfold U.hv; rw [if_neg hsm]
          have e2 : U.hwid r = 2 := by unfold U.hwid; rw [if_neg hsm]
          have HE := Hd.mk (And.intro e1 e2)
          have o1 := u16or 55296 ((r - 65536) / 1024) (.inl rfl) (by omega) (by omega)
          have o2 := i32and1023 (r - 65536) (by omega) (by omega)
          have o3 := u16or 56320 ((r - 65536) % 1024) (.inr rfl) (by omega) (by omega)
          clear e1 e2
          go_wp2_with (at_builtin; refine append_lit el_u16 #[.int .u16 (55296 + (r - 65536) / 1024), .int .u16 (56320 + (r - 65536) % 1024)] HOW.out rfl rfl rfl rfl rfl (one2 rfl rfl) (by unfold maxLen; omega) (by omega) hb0 ?_; intro v1 w2 hown1 hbel1 _)
          refine ⟨⟨k + 1, by omega, by go_num, ?_, HB.out.trans hbel1⟩, ?_⟩
          · rw [HHO.out, HTK.out, HE.out.1, HE.out.2, u16s_append]; exact hown1
          · simp only [intOf]; omega
      · obtain rfl : k = rs.length := by omega
        rw [List.take_length, U.hoff_full] at hown
        have hsl := Sl.of_own hown
        have HS2 := Hd.mk hsl
        have hfrs := Hd.mk ((Frs.of_own hown).mono HB1.out.size)
        clear hown hbel hsl
        go_wp2_with fail
        go_ret2
        exact ⟨HB1.out.trans (HB.out.mono HB1.out.size), fun _ => ⟨_, rfl, HS2.out, hfrs.out⟩, fun h => absurd HR.out h⟩
  · go_enter Tryz.func111, Tryz.ntmps111
    go_wp2_with (go_at_call 115; refine (runes_calls h _ hs).mono ?_; rintro e w1 ⟨hb1, _, hbad⟩; obtain ⟨g, rfl, hat⟩ := hbad hr)
    go_ret2
    exact ⟨hb1, fun h => absurd h hr, fun _ => ⟨g, rfl, hat⟩⟩
end Go.Proofs.YtdgdajnbkfmijaaGreatDoor
