/- Walks of utf.Halves and utf.FromHalves. -/
import Derived.Test.YthbhhnfhjppbdaaDoorUtfP
import Derived.Test.YthbhhnfhjppbdaaDoorUtfH
namespace Go.Proofs.YthbhhnfhjppbdaaDoor
open Go.RowKit
set_option maxRecDepth 100000
theorem el_u16 : El Tryd.prog 44 109 1 2 := El.mk' Tryd.underlying44 (by kernel_rfl) (by decide)
def u16s (l : List Int) : List Value := l.map (.int .u16)
theorem u16s_append (a b : List Int) : u16s (a ++ b) = u16s a ++ u16s b := by simp [u16s]
theorem i32and1023 (r : Int) (h : 0 ≤ r) (h2 : r ≤ 1114111) : bits .and .i32 r 1023 = r % 1024 := by
  obtain ⟨n, rfl⟩ := Int.eq_ofNat_of_zero_le h
  have e : n &&& 1023 = n % 1024 := Nat.and_two_pow_sub_one_eq_mod n 10
  have h1 : (BitVec.ofInt 32 (n : Int)).toNat = n := by
    rw [BitVec.ofInt_natCast, BitVec.toNat_ofNat]; exact Nat.mod_eq_of_lt (by omega)
  show IntKind.i32.wrap ((BitVec.ofInt 32 (n : Int) &&& BitVec.ofInt 32 1023).toNat : Int) = _
  rw [BitVec.toNat_and, h1, show (BitVec.ofInt 32 1023).toNat = 1023 from rfl, e, IntKind.wrap_i32]
  omega
theorem u16or (b x : Int) (hb : b = 55296 ∨ b = 56320) (h : 0 ≤ x) (h2 : x < 1024) : bits .or .u16 b x = b + x := by
  obtain ⟨n, rfl⟩ := Int.eq_ofNat_of_zero_le h
  obtain ⟨m, rfl⟩ : ∃ m : Nat, b = m := ⟨b.toNat, by omega⟩
  rw [u16_or_nat m n (by omega) (by omega), nat_join 10 m n (by rcases hb with h | h <;> (have : (m : Int) = _ := h; omega)) (by omega)]
  rfl
def HalvesPost (rs : List Int) (rest : U.Bs) (w : World) (e : Ending) (w' : World) : Prop :=
  Below w.heap.size w w' ∧ (rest = [] → ∃ v, e = .returned (.tuple #[v, .nilIface]) ∧ Sl w' 1 v (U.hvs rs).length (u16s (U.hvs rs))) ∧
    (rest ≠ [] → ∃ g, e = .returned (.tuple #[.slice none 0 0, atV g]) ∧ AtBlk w' g 3 (U.off rs rs.length))
set_option maxHeartbeats 2000000 in
theorem halves_calls {s : U.Bs} {rs : List Int} {rest : U.Bs} (h : U.Sp s rs rest) (w : World) (hs : s.length ≤ 35184372087808) :
    Calls Tryd.prog 17 #[.string ⟨s.toArray⟩] w (HalvesPost rs rest w) := by
  by_cases hr : rest = []
  · have hlen := h.length
    have hll := U.len_le_off rs
    have hrl : rs.length ≤ 35184372087808 := by omega
    have H := Hd.mk h
    have HR := Hd.mk hr
    clear hlen hll
    go_enter Tryd.func17, Tryd.ntmps17
    go_wp2_with (go_at_call 16; refine (runes_calls h _ hs).mono ?_; rintro e w1 ⟨hb1, hok, _⟩; obtain ⟨v, rfl, hsl⟩ := hok hr; have HSL := Hd.mk hsl; obtain ⟨A, c, rfl, _⟩ := hsl)
    have HB1 := Hd.mk hb1
    clear hok hb1 h hr hs
    go_loopw [6, 19] (fun b i wr => ∃ k : Nat, k ≤ rs.length ∧ i = .int .i64 k ∧ wr.ownsRow w1.heap.size 109 1 b (U.hoff rs k) (u16s (U.hvs (rs.take k))) ∧ Below w1.heap.size w1 wr) (fun _ i _ => rs.length - (intOf i).toNat)
    case atStart => exact ⟨0, by omega, rfl, World.ownsRow_nil _ _ _ _, Below.refl _ _⟩
    case round =>
      obtain ⟨k, hk, rfl, hown, hbel⟩ := hrel
      have hb0 := hbel.size
      have HB := Hd.mk hbel
      by_cases hkn : k < rs.length
      · obtain ⟨ad, c', u, hv, _, hu, hc⟩ := (HSL.out.below hbel).at_ hkn
        cases hv
        have hu2 : u = .int .i32 rs[k] := by
          unfold i32s at hu
          rw [List.getElem?_map, List.getElem?_eq_getElem hkn] at hu
          simpa using hu.symm
        subst hu2
        have hrr := U.right_iff.1 (H.out.all _ (List.getElem_mem hkn))
        have HHO := Hd.mk (U.hoff_succ hkn)
        have HTK : Hd (U.hvs (rs.take (k + 1)) = U.hvs (rs.take k) ++ U.hv rs[k]) := ⟨by rw [List.take_succ_eq_append_getElem hkn, U.hvs_append, U.hvs_cons, U.hvs_nil, List.append_nil]⟩
        have hol : U.hoff rs k ≤ 2 * k := by
          have := U.hvs_len_le (rs.take k)
          rw [List.length_take] at this
          unfold U.hoff; omega
        generalize rs[k] = r at hrr hc HHO HTK
        have hr0 : 0 ≤ r := by omega
        have hr1 : r ≤ 1114111 := by omega
        have HOW := Hd.mk hown
        clear hrr hown hbel hu
        by_cases hsm : r < 65536
        · have e1 : U.hv r = [r] := by unfold U.hv; rw [if_pos hsm]
          have e2 : U.hwid r = 1 := by unfold U.hwid; rw [if_pos hsm]
          have HE := Hd.mk (And.intro e1 e2)
          clear e1 e2
          go_wp2_with (at_builtin; refine append_lit el_u16 #[.int .u16 r] HOW.out rfl rfl rfl rfl rfl (one1 rfl) (by unfold maxLen; omega) (by omega) hb0 ?_; intro v1 w2 hown1 hbel1 _)
          refine ⟨⟨k + 1, by omega, by go_num, ?_, HB.out.trans hbel1⟩, ?_⟩
          · rw [HHO.out, HTK.out, HE.out.1, HE.out.2, u16s_append]; exact hown1
          · simp only [intOf]; omega
        · have e1 : U.hv r = [55296 + (r - 65536) / 1024, 56320 + (r - 65536) % 1024] := by unfold U.hv; rw [if_neg hsm]
          have e2 : U.hwid r = 2 := by unfold U.hwid; rw [if_neg hsm]
          have HE := Hd.mk (And.intro e1 e2)
          have o1 := u16or 55296 ((r - 65536) / 1024) (.inl rfl) (by omega) (by omega)
          have o2 := i32and1023 (r - 65536) (by omega) (by omega)
          have o3 := u16or 56320 ((r - 65536) % 1024) (.inr rfl) (by omega) (by omega)
          clear e1 e2
          go_wp2_with (at_builtin; refine append_lit el_u16 #[.int .u16 (55296 + (r - 65536) / 1024), .int .u16 (56320 + (r - 65536) % 1024)] HOW.out rfl rfl rfl rfl rfl (one2 rfl rfl) (by unfold maxLen; omega) (by omega) hb0 ?_; intro v1 w2 hown1 hbel1 _)
          refine ⟨⟨k + 1, by omega, by go_num, ?_, HB.out.trans hbel1⟩, ?_⟩
          · rw [HHO.out, HTK.out, HE.out.1, HE.out.2, u16s_append]; exact hown1
          · simp only [intOf]; omega
      · obtain rfl : k = rs.length := by omega
        rw [List.take_length, U.hoff_full] at hown
        have hsl := Sl.of_own hown
        have HS2 := Hd.mk hsl
        clear hown hbel hsl
        go_wp2_with fail
        go_ret2
        exact ⟨HB1.out.trans (HB.out.mono HB1.out.size), fun _ => ⟨_, rfl, HS2.out⟩, fun h => absurd HR.out h⟩
  · go_enter Tryd.func17, Tryd.ntmps17
    go_wp2_with (go_at_call 16; refine (runes_calls h _ hs).mono ?_; rintro e w1 ⟨hb1, _, hbad⟩; obtain ⟨g, rfl, hat⟩ := hbad hr)
    go_ret2
    exact ⟨hb1, fun h => absurd h hr, fun _ => ⟨g, rfl, hat⟩⟩
def FromPost (pre rest : List Int) (w : World) (e : Ending) (w' : World) : Prop :=
  Below w.heap.size w w' ∧ (rest = [] → e = .returned (.tuple #[.string ⟨(U.encs pre).toArray⟩, .nilIface])) ∧
    (rest ≠ [] → ∃ g, e = .returned (.tuple #[.string ⟨#[]⟩, atV g]) ∧ AtBlk w' g 3 (U.hoff pre pre.length))
theorem u16_at {w : World} {l : List Int} {A : Option Addr} {n c : Nat} (h : Sl w 1 (.slice A n c) n (u16s l)) {k : Nat} (hk : k < n) {x : Int} (hx : l[k]? = some x) :
    ∃ ad, A = some ad ∧ w.cell? (ad.add k) = some (.int .u16 x) := by
  obtain ⟨ad, c', u, hv, _, hu, hc⟩ := h.at_ hk
  cases hv
  refine ⟨ad, rfl, ?_⟩
  unfold u16s at hu
  rw [List.getElem?_map, hx] at hu
  simp only [Option.map_some, Option.some.injEq] at hu
  subst hu
  exact hc
set_option maxHeartbeats 8000000 in
theorem fromHalves_calls {l pre rest : List Int} {v : Value} {n : Nat} {w : World} (h : U.Hp l pre rest) (hin : U.InH l) (hsl : Sl w 1 v n (u16s l)) (hn : n ≤ 4398046511104) :
    Calls Tryd.prog 75 #[v] w (FromPost pre rest w) := by
  have hln : l.length = n := by have := hsl.len; simpa [u16s] using this
  have HLEN := Hd.mk h.length
  have hpl : U.hoff pre pre.length ≤ n := by have := HLEN.out; omega
  have HLN := Hd.mk hln
  have HSL := Hd.mk hsl
  have HIN := Hd.mk hin
  obtain ⟨A, c, rfl, _⟩ := hsl
  have H := Hd.mk h
  clear h hln hin
  go_enter Tryd.func75, Tryd.ntmps75
  go_wp2_with fail
  go_loopw [2, 3, 4, 5] (fun t e b i wr => t = .string ⟨#[]⟩ ∧ e = .nilIface ∧ ∃ k : Nat, k ≤ pre.length ∧ i = .int .i64 (U.hoff pre k) ∧ wr.ownsRow w.heap.size 5 1 b (U.encs (pre.take k)).length (u8s (U.encs (pre.take k))) ∧ Below w.heap.size w wr) (fun _ _ _ i _ => n - (intOf i).toNat)
  case atStart => exact ⟨rfl, rfl, 0, by omega, rfl, World.ownsRow_nil _ _ _ _, Below.refl _ _⟩
  case round =>
    obtain ⟨rfl, rfl, k, hk, rfl, hown, hbel⟩ := hrel
    have hb0 := hbel.size
    have HB := Hd.mk hbel
    have hok : U.hoff pre k ≤ U.hoff pre pre.length := U.hoff_le hk
    by_cases hkp : k < pre.length
    · have hol := U.hoff_lt hkp
      have hr : U.right pre[k] = true := H.out.all _ (List.getElem_mem hkp)
      have hrr := U.right_iff.1 hr
      have hat := H.out.at_ hkp
      have HHO := Hd.mk (U.hoff_succ hkp)
      have HTK : Hd (U.encs (pre.take (k + 1)) = U.encs (pre.take k) ++ U.enc pre[k]) := ⟨by rw [List.take_succ_eq_append_getElem hkp, U.encs_append, U.encs_cons, U.encs_nil, List.append_nil]⟩
      have hnx : U.hoff pre (k + 1) ≤ U.hoff pre pre.length := U.hoff_le hkp
      rw [HHO.out] at hnx
      have HEL : (U.encs (pre.take k)).length ≤ 4 * U.hoff pre k := U.encs_le_hvs (pre.take k)
      generalize pre[k] = r at hr hrr hat HHO HTK hnx
      have HOW := Hd.mk hown
      by_cases hsm : r < 65536
      · have e1 : U.hv r = [r] := by unfold U.hv; rw [if_pos hsm]
        have e2 : U.hwid r = 1 := by unfold U.hwid; rw [if_pos hsm]
        have h0 := hat 0 (by omega)
        rw [e1, Nat.add_zero] at h0
        obtain ⟨ad, rfl, hc⟩ := u16_at (HSL.out.below hbel) (by omega) h0
        have HE := Hd.mk e2
        have HR := Hd.mk hr
        have hr0 : 0 ≤ r := by omega
        rw [e2] at hnx
        clear e1 e2 hat hr h0 hown hbel
        have fin : ∀ (v1 : Value) (w1 : World), w1.ownsRow w.heap.size 5 1 v1 ((U.encs (pre.take k)).length + U.wid r) (u8s (U.encs (pre.take k)) ++ u8s (U.enc r)) →
            w1.ownsRow w.heap.size 5 1 v1 (U.encs (pre.take (k + 1))).length (u8s (U.encs (pre.take (k + 1)))) := fun v1 w1 ho => by
          rw [HTK.out, u8s_append, List.length_append, U.enc_length]; exact ho
        have FIN := Hd.mk fin
        clear fin
        by_cases hlo : r < 55296
        · clear hrr
          go_wp2_with (go_at_call 90; refine (put_calls HR.out HOW.out hb0 (by omega)).mono ?_; rintro e w' ⟨v', rfl, hown', hbel'⟩)
          refine ⟨⟨rfl, rfl, k + 1, by omega, by rw [HHO.out, HE.out]; go_num, FIN.out _ _ hown', HB.out.trans hbel'⟩, ?_⟩
          simp only [intOf]; omega
        · have hlo2 : 57344 ≤ r := by omega
          clear hrr
          go_wp2_with (go_at_call 90; refine (put_calls HR.out HOW.out hb0 (by omega)).mono ?_; rintro e w' ⟨v', rfl, hown', hbel'⟩)
          refine ⟨⟨rfl, rfl, k + 1, by omega, by rw [HHO.out, HE.out]; go_num, FIN.out _ _ hown', HB.out.trans hbel'⟩, ?_⟩
          simp only [intOf]; omega
      · have e1 : U.hv r = [55296 + (r - 65536) / 1024, 56320 + (r - 65536) % 1024] := by unfold U.hv; rw [if_neg hsm]
        have e2 : U.hwid r = 2 := by unfold U.hwid; rw [if_neg hsm]
        have h0 := hat 0 (by omega)
        have h1 := hat 1 (by omega)
        rw [e1, Nat.add_zero] at h0
        rw [e1] at h1
        rw [e2] at hnx
        obtain ⟨ad, rfl, hc⟩ := u16_at (HSL.out.below hbel) (by omega) h0
        obtain ⟨ad', hA, hc'⟩ := u16_at (HSL.out.below hbel) (by omega) h1
        cases hA
        rw [addr_succ] at hc'
        have ER : Hd (65536 + (55296 + (r - 65536) / 1024) % 1024 * 1024 + (56320 + (r - 65536) % 1024) % 1024 = r) := ⟨by omega⟩
        have HE := Hd.mk e2
        have HR := Hd.mk hr
        have FIN : Hd (∀ (v1 : Value) (w1 : World), w1.ownsRow w.heap.size 5 1 v1 ((U.encs (pre.take k)).length + U.wid r) (u8s (U.encs (pre.take k)) ++ u8s (U.enc r)) →
            w1.ownsRow w.heap.size 5 1 v1 (U.encs (pre.take (k + 1))).length (u8s (U.encs (pre.take (k + 1))))) := ⟨fun v1 w1 ho => by
          rw [HTK.out, u8s_append, List.length_append, U.enc_length]; exact ho⟩
        have hp1 : 55296 ≤ 55296 + (r - 65536) / 1024 := by omega
        have hp2 : 55296 + (r - 65536) / 1024 < 56320 := by omega
        have hq1 : 56320 ≤ 56320 + (r - 65536) % 1024 := by omega
        have hq2 : 56320 + (r - 65536) % 1024 < 57344 := by omega
        clear hat hr hrr h0 h1 hown hbel e1 e2 hsm
        generalize 55296 + (r - 65536) / 1024 = p at *
        generalize 56320 + (r - 65536) % 1024 = q at *
        have a1 := i32and1023 p (by omega) (by omega)
        have a2 : bits .and .u16 q 1023 = q % 1024 := by
          obtain ⟨m, rfl⟩ := Int.eq_ofNat_of_zero_le (show 0 ≤ q by omega)
          rw [show (1023 : Int) = ((1023 : Nat) : Int) from rfl, u16_and_nat m 1023 (by omega) (by omega), nat_mask10]; rfl
        go_wp2_with (go_at_call 90; refine (put_calls (by rw [ER.out]; exact HR.out) HOW.out hb0 (by omega)).mono ?_; rintro e w' ⟨v', rfl, hown', hbel'⟩)
        rw [ER.out] at hown'
        refine ⟨⟨rfl, rfl, k + 1, by omega, by rw [HHO.out, HE.out]; go_num, FIN.out _ _ hown', HB.out.trans hbel'⟩, ?_⟩
        simp only [intOf]; omega
    · obtain rfl : k = pre.length := by omega
      rw [List.take_length] at hown
      clear hok hk hkp
      by_cases hr : rest = []
      · have hnn : U.hoff pre pre.length = n := by
          have := HLEN.out
          rw [hr] at this
          have h2 := HLN.out
          simp at this; omega
        have hge : ¬ U.hoff pre pre.length < n := by omega
        have hsl := Sl.of_own hown
        have hcv := conv_bytes (P := Tryd.prog) Tryd.underlying104 Tryd.underlying5 Tryd.underlying9 hsl
        have HRE := Hd.mk hr
        clear hown hbel hsl hr hnn
        go_wp2_with fail
        go_ret2
        exact ⟨HB.out, fun _ => rfl, fun h => absurd HRE.out h⟩
      · have hend := H.out.end_
        have hbad := H.out.bad
        have hlr := HLEN.out
        rw [HLN.out] at hlr
        have HNE := Hd.mk hr
        cases rest with
        | nil => exact absurd rfl hr
        | cons a t =>
        cases t with
        | nil =>
          have hn1 : n = U.hoff pre pre.length + 1 := by simpa using hlr
          have h0 := hend 0
          rw [Nat.add_zero] at h0
          obtain ⟨ad, rfl, hc⟩ := u16_at (HSL.out.below hbel) (by omega) h0
          obtain ⟨ha1, ha2⟩ : 55296 ≤ a ∧ a < 57344 := hbad
          have hn2 : U.hoff pre pre.length < n := by omega
          have hn3 : ¬ U.hoff pre pre.length + 1 < n := by omega
          have hn4 : U.hoff pre pre.length + 1 ≤ 4398046511104 := by omega
          clear hown hbel hend hlr hn1 h0
          by_cases hhi : a < 56320
          · go_wp2_with fail
            go_ret2
            exact ⟨HB.out.alloc (by omega) _, fun h => absurd h HNE.out, fun _ => ⟨wr.heap.size, rfl, heap_alloc_new wr _⟩⟩
          · go_wp2_with fail
            go_ret2
            exact ⟨HB.out.alloc (by omega) _, fun h => absurd h HNE.out, fun _ => ⟨wr.heap.size, rfl, heap_alloc_new wr _⟩⟩
        | cons b t =>
          have hn1 : n = U.hoff pre pre.length + (t.length + 2) := by simpa using hlr
          have h0 := hend 0
          have h1 := hend 1
          rw [Nat.add_zero] at h0
          obtain ⟨ad, rfl, hc⟩ := u16_at (HSL.out.below hbel) (by omega) h0
          obtain ⟨ad', hA, hc'⟩ := u16_at (HSL.out.below hbel) (by omega) h1
          cases hA
          rw [addr_succ] at hc'
          obtain ⟨ha1, ha2, hab⟩ : 55296 ≤ a ∧ a < 57344 ∧ (56320 ≤ a ∨ b < 56320 ∨ 57344 ≤ b) := hbad
          have hn2 : U.hoff pre pre.length < n := by omega
          have hn3 : U.hoff pre pre.length + 1 < n := by omega
          have hn4 : U.hoff pre pre.length + 1 ≤ 4398046511104 := by omega
          have hbb : 0 ≤ b ∧ b < 65536 := by
            have := HIN.out b (by rw [H.out.eq]; simp)
            exact this
          obtain ⟨hb1, hb2⟩ := hbb
          clear hown hbel hend hlr hn1 h0 h1
          by_cases hhi : a < 56320
          · by_cases hlo : b < 56320
            · clear hab
              go_wp2_with fail
              go_ret2
              exact ⟨HB.out.alloc (by omega) _, fun h => absurd h HNE.out, fun _ => ⟨wr.heap.size, rfl, heap_alloc_new wr _⟩⟩
            · have hlo2 : 57344 ≤ b := by omega
              clear hab
              go_wp2_with fail
              go_ret2
              exact ⟨HB.out.alloc (by omega) _, fun h => absurd h HNE.out, fun _ => ⟨wr.heap.size, rfl, heap_alloc_new wr _⟩⟩
          · clear hab
            go_wp2_with fail
            go_ret2
            exact ⟨HB.out.alloc (by omega) _, fun h => absurd h HNE.out, fun _ => ⟨wr.heap.size, rfl, heap_alloc_new wr _⟩⟩
end Go.Proofs.YthbhhnfhjppbdaaDoor
