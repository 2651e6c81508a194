/- Walks of the reference's Text and FromHalves. -/
import Derived.Test.YtkiigheleoncfaaDoorRefU
import Derived.Test.YtkiigheleoncfaaDoorErr
namespace Go.Proofs.YtkiigheleoncfaaDoor
open Go.RowKit
set_option maxRecDepth 100000
def fltV (e p : Int) : Value := .agg #[.int .i64 e, .int .i64 p]
def RTextPost (pre rest : List Int) (w : World) (e : Ending) (w' : World) : Prop :=
  Below w.heap.size w w' ∧ (rest = [] → e = .returned (.tuple #[.string ⟨(U.encs pre).toArray⟩, .agg #[.int .i64 0, .int .i64 (-1)]])) ∧
    (rest ≠ [] → e = .returned (.tuple #[.string ⟨#[]⟩, .agg #[.int .i64 3, .int .i64 pre.length]]))
section
attribute [local go_sem] str_append
set_option maxHeartbeats 2000000 in
theorem rtext_calls {l pre rest : List Int} {v : Value} {n : Nat} {w : World} (h : Tp l pre rest) (hsl : Sl w 1 v n (i32s l)) (hn : n ≤ 4398046511104) (hi : ∀ r ∈ l, -2147483648 ≤ r ∧ r ≤ 2147483647) :
    Calls Tryd.prog 10 #[v] w (RTextPost pre rest w) := by
  have hln : l.length = n := by have := hsl.len; simpa [i32s] using this
  have hpl : pre.length ≤ n := by rw [← hln, h.eq]; simp
  have HLN := Hd.mk hln
  have HSL := Hd.mk hsl
  obtain ⟨A, c, rfl, -⟩ := hsl
  have H := Hd.mk h
  have HI := Hd.mk hi
  clear h hln hi
  go_enter Tryd.func10, Tryd.ntmps10
  go_wp2_with fail
  go_loopw [2, 4, 9] (fun t b i wr => t = .string ⟨#[]⟩ ∧ ∃ k : Nat, k ≤ pre.length ∧ i = .int .i64 k ∧ b = .string ⟨(U.encs (pre.take k)).toArray⟩ ∧ Blk wr w.heap.size 26 #[.int .i64 0, .int .i64 0] ∧ Below w.heap.size w wr) (fun _ _ i _ => n - (intOf i).toNat)
  case atStart => exact ⟨rfl, 0, by omega, rfl, rfl, Blk.new _ _ _, (by repeat (first | exact Below.refl _ _ | exact ex_drew (by assumption) | apply ex_drew | apply ex_drewN | apply ex_alloc | assumption))⟩
  case round =>
    obtain ⟨rfl, k, hk, rfl, rfl, hblk, hbel⟩ := hrel
    have hb0 := hbel.size
    have HB := Hd.mk hbel
    have HK := Hd.mk hblk
    have hgl := hblk.lt
    by_cases hkn : k < n
    · obtain ⟨ad, c', u, hv, _, hu, hc⟩ := (HSL.out.below hbel).at_ hkn
      cases hv
      have hlk : k < l.length := by rw [HLN.out]; exact hkn
      have hu2 : u = .int .i32 l[k] := by
        unfold i32s at hu
        rw [List.getElem?_map, List.getElem?_eq_getElem hlk] at hu
        simpa using hu.symm
      subst hu2
      have hri := HI.out l[k] (List.getElem_mem hlk)
      by_cases hlt : k < pre.length
      · have hr : U.right l[k] = true := by
          have e : l[k] = pre[k] := by
            have := H.out.eq
            subst this
            exact List.getElem_append_left hlt
          rw [e]; exact H.out.all _ (List.getElem_mem hlt)
        have he : pre[k] = l[k] := by
          have := H.out.eq
          subst this
          exact (List.getElem_append_left hlt).symm
        generalize l[k] = r at hr he hc hri
        have HR := Hd.mk hr
        have HE := Hd.mk he
        have HRI := Hd.mk hri
        have hL1 : (U.encs (pre.take k)).length ≤ 4 * n := by
          have := enc_len_le (pre.take k)
          rw [List.length_take] at this
          omega
        have hL2 : (U.enc r).length ≤ 4 := by rw [U.enc_length]; exact U.wid_le r
        clear hr he hblk hbel hu hlk hri
        go_wp2_with (first | (go_at_call 52; refine (rune_calls r _ HRI.out.1 HRI.out.2).mono ?_; rw [HR.out]; rintro e w' ⟨rfl, rfl⟩) | (go_at_call 53; refine (bytes_calls r _ HR.out).mono ?_; rintro e w1 ⟨rfl, hb1⟩))
        refine ⟨⟨rfl, k + 1, by omega, by go_num, ?_, HK.out.below hb1 hgl, HB.out.trans (hb1.mono hb0)⟩, ?_⟩
        · rw [List.take_succ_eq_append_getElem hlt, U.encs_append, U.encs_cons, U.encs_nil, List.append_nil, HE.out]
        · simp only [intOf]; omega
      · obtain rfl : k = pre.length := by omega
        have hr : U.right l[pre.length] = false := by
          have := H.out.eq
          have hl2 : pre.length < (pre ++ rest).length := by rw [← this]; exact hlk
          have hrl : 0 < rest.length := by simpa using hl2
          match hrest : rest, hrl with
          | r :: t, _ =>
            have e : l[pre.length] = r := by subst this; simp
            rw [e]; exact H.out.bad r t rfl
        have hne : rest ≠ [] := by
          intro hr0
          have := H.out.eq
          rw [hr0, List.append_nil] at this
          subst this; omega
        generalize l[pre.length] = r at hr hc hri
        have HR := Hd.mk hr
        have HNE := Hd.mk hne
        have HRI := Hd.mk hri
        have hf := hblk.frozen
        have c0 := hblk.cell 0
        have c1 := hblk.cell 1
        simp only [List.getElem?_toArray, List.getElem?_cons_zero, List.getElem?_cons_succ] at c0 c1
        clear hr hblk hbel hu hlk hne hlt hri
        go_wp2_with (go_at_call 52; refine (rune_calls r _ HRI.out.1 HRI.out.2).mono ?_; rw [HR.out]; rintro e w' ⟨rfl, rfl⟩)
        refine HK.out.set2 (F := fun W => bodyPost _ _ _ Exit.ret _ W) ?_
        intro w3 hC3 hB3 _ _
        have g0 := hC3.cell 0
        have g1 := hC3.cell 1
        simp only [List.getElem?_toArray, List.getElem?_cons_zero, List.getElem?_cons_succ] at g0 g1
        refine bodyPost_ret (v := .tuple #[.string ⟨#[]⟩, .agg #[.int .i64 3, .int .i64 pre.length]]) (by simp [results, Tryd.results10, go_sem, g0, g1]) rfl ?_
        exact ⟨HB.out.trans (hB3 _ (Nat.le_refl _)), fun h => absurd h HNE.out, fun _ => rfl⟩
    · obtain rfl : k = pre.length := by omega
      have hrest : rest = [] := by
        have := congrArg List.length H.out.eq
        rw [HLN.out, List.length_append] at this
        exact List.eq_nil_of_length_eq_zero (by omega)
      rw [List.take_length]
      have HRE := Hd.mk hrest
      clear hblk hbel hrest
      go_wp2_with fail
      refine (bareR_calls 0 _).mono ?_
      rintro e w1 ⟨rfl, hb1⟩
      have hK1 := HK.out.below hb1 hgl
      have HK1 := Hd.mk hK1
      have hf := hK1.frozen
      have c0 := hK1.cell 0
      have c1 := hK1.cell 1
      simp only [List.getElem?_toArray, List.getElem?_cons_zero, List.getElem?_cons_succ] at c0 c1
      have HB1 := Hd.mk (HB.out.trans (hb1.mono hb0))
      clear hK1 hb1
      go_wp2_with fail
      refine HK1.out.set2 (F := fun W => bodyPost _ _ _ Exit.ret _ W) ?_
      intro w3 hC3 hB3 _ _
      have g0 := hC3.cell 0
      have g1 := hC3.cell 1
      simp only [List.getElem?_toArray, List.getElem?_cons_zero, List.getElem?_cons_succ] at g0 g1
      refine bodyPost_ret (v := .tuple #[.string ⟨(U.encs pre).toArray⟩, .agg #[.int .i64 0, .int .i64 (-1)]]) (by simp [results, Tryd.results10, go_sem, g0, g1]) rfl ?_
      exact ⟨HB1.out.trans (hB3 _ (Nat.le_refl _)), fun _ => rfl, fun h => absurd HRE.out h⟩
end
def RFromPost (pre rest : List Int) (w : World) (e : Ending) (w' : World) : Prop :=
  Below w.heap.size w w' ∧ (rest = [] → e = .returned (.tuple #[.string ⟨(U.encs pre).toArray⟩, .agg #[.int .i64 0, .int .i64 (-1)]])) ∧
    (rest ≠ [] → e = .returned (.tuple #[.string ⟨#[]⟩, .agg #[.int .i64 3, .int .i64 (U.hoff pre pre.length)]]))
theorem le_hoff {rs : List Int} {k : Nat} (hk : k ≤ rs.length) : k ≤ U.hoff rs k := by
  induction k with
  | zero => omega
  | succ k ih =>
    rw [U.hoff_succ hk]
    have := U.hwid_pos rs[k]
    have := ih (by omega)
    omega
set_option maxHeartbeats 8000000 in
theorem rfrom_calls {l pre rest : List Int} {v : Value} {n : Nat} {w : World} (h : U.Hp l pre rest) (hin : U.InH l) (hsl : Sl w 1 v n (u16s l)) (hn : n ≤ 4398046511104) :
    Calls Tryd.prog 12 #[v] w (RFromPost pre rest w) := by
  have hln : l.length = n := by have := hsl.len; simpa [u16s] using this
  have HLEN := Hd.mk h.length
  have hpl : U.hoff pre pre.length ≤ n := by have := HLEN.out; omega
  have HLN := Hd.mk hln
  have HSL := Hd.mk hsl
  have HIN := Hd.mk hin
  obtain ⟨A, c, rfl, -⟩ := hsl
  have H := Hd.mk h
  clear h hln hin
  go_enter Tryd.func12, Tryd.ntmps12
  go_wp2_with fail
  go_loopw [2, 4, 5] (fun t b i wr => t = .string ⟨#[]⟩ ∧ ∃ k : Nat, k ≤ pre.length ∧ i = .int .i64 (U.hoff pre k) ∧ wr.ownsRow (w.heap.size + 1) 21 1 b k (i32s (pre.take k)) ∧ Blk wr w.heap.size 26 #[.int .i64 0, .int .i64 0] ∧ Below w.heap.size w wr) (fun _ _ i _ => n - (intOf i).toNat)
  case atStart => exact ⟨rfl, 0, by omega, rfl, World.ownsRow_nil _ _ _ _, Blk.new _ _ _, (by repeat (first | exact Below.refl _ _ | exact ex_drew (by assumption) | apply ex_drew | apply ex_drewN | apply ex_alloc | assumption))⟩
  case round =>
    obtain ⟨rfl, k, hk, rfl, hown, hblk, hbel⟩ := hrel
    have hb0 : w.heap.size + 1 ≤ wr.heap.size := by have := hblk.lt; omega
    have HB := Hd.mk hbel
    have HK := Hd.mk hblk
    have hok : U.hoff pre k ≤ U.hoff pre pre.length := U.hoff_le hk
    have hkh : k ≤ U.hoff pre k := le_hoff hk
    by_cases hkp : k < pre.length
    · have hol := U.hoff_lt hkp
      have hr : U.right pre[k] = true := H.out.all _ (List.getElem_mem hkp)
      have hrr := U.right_iff.1 hr
      have hat := H.out.at_ hkp
      have HHO := Hd.mk (U.hoff_succ hkp)
      have HTK : Hd (i32s (pre.take (k + 1)) = i32s (pre.take k) ++ #[Value.int .i32 pre[k]].toList) := ⟨by rw [List.take_succ_eq_append_getElem hkp, i32s, List.map_append]; rfl⟩
      have hnx : U.hoff pre (k + 1) ≤ U.hoff pre pre.length := U.hoff_le hkp
      rw [HHO.out] at hnx
      generalize pre[k] = r at hr hrr hat HHO HTK hnx
      have HOW := Hd.mk hown
      have fin : ∀ (v1 : Value) (w1 : World), Below (w.heap.size + 1) wr w1 → Blk w1 w.heap.size 26 #[.int .i64 0, .int .i64 0] ∧ Below w.heap.size w w1 := fun v1 w1 hb =>
        ⟨HK.out.below hb (by omega), HB.out.trans (hb.mono (by omega))⟩
      have FIN := Hd.mk fin
      clear fin
      by_cases hsm : r < 65536
      · have e1 : U.hv r = [r] := by unfold U.hv; rw [if_pos hsm]
        have e2 : U.hwid r = 1 := by unfold U.hwid; rw [if_pos hsm]
        have h0 := hat 0 (by omega)
        rw [e1, Nat.add_zero] at h0
        obtain ⟨ad, rfl, hc⟩ := u16_at (HSL.out.below hbel) (by omega) h0
        have HE := Hd.mk e2
        have hr0 : 0 ≤ r := by omega
        rw [e2] at hnx
        clear e1 e2 hat hr h0 hown hbel hblk
        by_cases hlo : r < 55296
        · clear hrr
          go_wp2_with (first | (go_at_call 57; first | (refine (inT (by omega) _).mono ?_; rintro e w' ⟨rfl, rfl⟩) | (refine (inF (by omega) _).mono ?_; rintro e w' ⟨rfl, rfl⟩)) | (at_builtin; refine append_lit el_i32 #[.int .i32 r] HOW.out rfl rfl rfl rfl rfl (one1 rfl) (by unfold maxLen; omega) (by omega) hb0 ?_; intro v1 w1 hown1 hbel1 _))
          rw [← HTK.out] at hown1
          refine ⟨⟨rfl, k + 1, by omega, by rw [HHO.out, HE.out]; go_num, hown1, FIN.out v1 w1 hbel1⟩, ?_⟩
          simp only [intOf]; omega
        · have hlo2 : 57344 ≤ r := by omega
          clear hrr
          go_wp2_with (first | (go_at_call 57; first | (refine (inT (by omega) _).mono ?_; rintro e w' ⟨rfl, rfl⟩) | (refine (inF (by omega) _).mono ?_; rintro e w' ⟨rfl, rfl⟩)) | (at_builtin; refine append_lit el_i32 #[.int .i32 r] HOW.out rfl rfl rfl rfl rfl (one1 rfl) (by unfold maxLen; omega) (by omega) hb0 ?_; intro v1 w1 hown1 hbel1 _))
          rw [← HTK.out] at hown1
          refine ⟨⟨rfl, k + 1, by omega, by rw [HHO.out, HE.out]; go_num, hown1, FIN.out v1 w1 hbel1⟩, ?_⟩
          simp only [intOf]; omega
      · have e1 : U.hv r = [55296 + (r - 65536) / 1024, 56320 + (r - 65536) % 1024] := by unfold U.hv; rw [if_neg hsm]
        have e2 : U.hwid r = 2 := by unfold U.hwid; rw [if_neg hsm]
        have h0 := hat 0 (by omega)
        have h1 := hat 1 (by omega)
        rw [e1, Nat.add_zero] at h0
        rw [e1] at h1
        rw [e2] at hnx
        obtain ⟨ad, rfl, hc⟩ := u16_at (HSL.out.below hbel) (by omega) h0
        obtain ⟨ad', hA, hc'⟩ := u16_at (HSL.out.below hbel) (by omega) h1
        cases hA
        rw [addr_succ] at hc'
        have ER : Hd (65536 + (55296 + (r - 65536) / 1024 - 55296) * 1024 + (56320 + (r - 65536) % 1024) - 56320 = r) := ⟨by omega⟩
        have HE := Hd.mk e2
        have hp1 : 55296 ≤ 55296 + (r - 65536) / 1024 := by omega
        have hp2 : 55296 + (r - 65536) / 1024 < 56320 := by omega
        have hq1 : 56320 ≤ 56320 + (r - 65536) % 1024 := by omega
        have hq2 : 56320 + (r - 65536) % 1024 < 57344 := by omega
        clear hat hr hrr h0 h1 hown hbel e1 e2 hsm hblk
        generalize 55296 + (r - 65536) / 1024 = p at *
        generalize 56320 + (r - 65536) % 1024 = q at *
        go_wp2_with (first | (go_at_call 57; first | (refine (inT (by omega) _).mono ?_; rintro e w' ⟨rfl, rfl⟩) | (refine (inF (by omega) _).mono ?_; rintro e w' ⟨rfl, rfl⟩)) | (at_builtin; refine append_lit el_i32 #[.int .i32 (65536 + (p - 55296) * 1024 + q - 56320)] HOW.out rfl rfl rfl rfl rfl (one1 rfl) (by unfold maxLen; omega) (by omega) hb0 ?_; intro v1 w1 hown1 hbel1 _))
        rw [ER.out, ← HTK.out] at hown1
        refine ⟨⟨rfl, k + 1, by omega, by rw [HHO.out, HE.out]; go_num, hown1, FIN.out v1 w1 hbel1⟩, ?_⟩
        simp only [intOf]; omega
    · obtain rfl : k = pre.length := by omega
      rw [List.take_length] at hown
      clear hok hk hkp
      by_cases hr : rest = []
      · have hnn : U.hoff pre pre.length = n := by
          have := HLEN.out
          rw [hr] at this
          have h2 := HLN.out
          simp at this; omega
        have hge : ¬ U.hoff pre pre.length < n := by omega
        have hsl := Sl.of_own hown
        have HS := Hd.mk hsl
        have HRE := Hd.mk hr
        have hpn : pre.length ≤ 4398046511104 := by omega
        have HTP : Hd (Tp pre pre []) := ⟨⟨H.out.all, by simp, fun r t h => by cases h⟩⟩
        have HI2 : Hd (∀ r ∈ pre, -2147483648 ≤ r ∧ r ≤ 2147483647) := ⟨fun r hr => by have := U.right_iff.1 (H.out.all r hr); omega⟩
        clear hown hbel hsl hr hnn
        go_wp2_with fail
        refine (rtext_calls HTP.out HS.out hpn HI2.out).mono ?_
        rintro e w1 ⟨hb1, hok1, _⟩
        obtain rfl := hok1 rfl
        have hK1 := HK.out.below hb1 (by omega)
        have HK1 := Hd.mk hK1
        have hf := hK1.frozen
        have c0 := hK1.cell 0
        have c1 := hK1.cell 1
        simp only [List.getElem?_toArray, List.getElem?_cons_zero, List.getElem?_cons_succ] at c0 c1
        have HB1 := Hd.mk (HB.out.trans (hb1.mono (by omega)))
        clear hK1 hb1 hok1
        go_wp2_with fail
        refine HK1.out.set2 (F := fun W => bodyPost _ _ _ Exit.ret _ W) ?_
        intro w3 hC3 hB3 _ _
        have g0 := hC3.cell 0
        have g1 := hC3.cell 1
        simp only [List.getElem?_toArray, List.getElem?_cons_zero, List.getElem?_cons_succ] at g0 g1
        refine bodyPost_ret (v := .tuple #[.string ⟨(U.encs pre).toArray⟩, .agg #[.int .i64 0, .int .i64 (-1)]]) (by simp [results, Tryd.results12, go_sem, g0, g1]) rfl ?_
        exact ⟨HB1.out.trans (hB3 _ (Nat.le_refl _)), fun _ => rfl, fun h => absurd HRE.out h⟩
      · have hend := H.out.end_
        have hbad := H.out.bad
        have hlr := HLEN.out
        rw [HLN.out] at hlr
        have HNE := Hd.mk hr
        have hf := hblk.frozen
        have d0 := hblk.cell 0
        have d1 := hblk.cell 1
        simp only [List.getElem?_toArray, List.getElem?_cons_zero, List.getElem?_cons_succ] at d0 d1
        cases rest with
        | nil => exact absurd rfl hr
        | cons a t =>
        cases t with
        | nil =>
          have hn1 : n = U.hoff pre pre.length + 1 := by simpa using hlr
          have h0 := hend 0
          rw [Nat.add_zero] at h0
          obtain ⟨ad, rfl, hc⟩ := u16_at (HSL.out.below hbel) (by omega) h0
          obtain ⟨ha1, ha2⟩ : 55296 ≤ a ∧ a < 57344 := hbad
          have hn2 : U.hoff pre pre.length < n := by omega
          have hn3 : ¬ U.hoff pre pre.length + 1 < n := by omega
          have hn4 : U.hoff pre pre.length + 1 ≤ 4398046511104 := by omega
          clear hown hbel hend hlr hn1 h0 hblk
          by_cases hhi : a < 56320
          · skip
            go_wp2_with (go_at_call 57; first | (refine (inT (by omega) _).mono ?_; rintro e w' ⟨rfl, rfl⟩) | (refine (inF (by omega) _).mono ?_; rintro e w' ⟨rfl, rfl⟩))
            refine HK.out.set2 (F := fun W => bodyPost _ _ _ Exit.ret _ W) ?_
            intro w3 hC3 hB3 _ _
            have g0 := hC3.cell 0
            have g1 := hC3.cell 1
            simp only [List.getElem?_toArray, List.getElem?_cons_zero, List.getElem?_cons_succ] at g0 g1
            refine bodyPost_ret (v := .tuple #[.string ⟨#[]⟩, .agg #[.int .i64 3, .int .i64 (U.hoff pre pre.length)]]) (by simp [results, Tryd.results12, go_sem, g0, g1]) rfl ?_
            exact ⟨HB.out.trans (hB3 _ (Nat.le_refl _)), fun h => absurd h HNE.out, fun _ => rfl⟩
          · skip
            go_wp2_with (go_at_call 57; first | (refine (inT (by omega) _).mono ?_; rintro e w' ⟨rfl, rfl⟩) | (refine (inF (by omega) _).mono ?_; rintro e w' ⟨rfl, rfl⟩))
            refine HK.out.set2 (F := fun W => bodyPost _ _ _ Exit.ret _ W) ?_
            intro w3 hC3 hB3 _ _
            have g0 := hC3.cell 0
            have g1 := hC3.cell 1
            simp only [List.getElem?_toArray, List.getElem?_cons_zero, List.getElem?_cons_succ] at g0 g1
            refine bodyPost_ret (v := .tuple #[.string ⟨#[]⟩, .agg #[.int .i64 3, .int .i64 (U.hoff pre pre.length)]]) (by simp [results, Tryd.results12, go_sem, g0, g1]) rfl ?_
            exact ⟨HB.out.trans (hB3 _ (Nat.le_refl _)), fun h => absurd h HNE.out, fun _ => rfl⟩
        | cons b t =>
          have hn1 : n = U.hoff pre pre.length + (t.length + 2) := by simpa using hlr
          have h0 := hend 0
          have h1 := hend 1
          rw [Nat.add_zero] at h0
          obtain ⟨ad, rfl, hc⟩ := u16_at (HSL.out.below hbel) (by omega) h0
          obtain ⟨ad', hA, hc'⟩ := u16_at (HSL.out.below hbel) (by omega) h1
          cases hA
          rw [addr_succ] at hc'
          obtain ⟨ha1, ha2, hab⟩ : 55296 ≤ a ∧ a < 57344 ∧ (56320 ≤ a ∨ b < 56320 ∨ 57344 ≤ b) := hbad
          have hn2 : U.hoff pre pre.length < n := by omega
          have hn3 : U.hoff pre pre.length + 1 < n := by omega
          have hn4 : U.hoff pre pre.length + 1 ≤ 4398046511104 := by omega
          have hbb : 0 ≤ b ∧ b < 65536 := by
            have := HIN.out b (by rw [H.out.eq]; simp)
            exact this
          obtain ⟨hb1, hb2⟩ := hbb
          clear hown hbel hend hlr hn1 h0 h1 hblk
          by_cases hhi : a < 56320
          · by_cases hlo : b < 56320
            · clear hab
              go_wp2_with (go_at_call 57; first | (refine (inT (by omega) _).mono ?_; rintro e w' ⟨rfl, rfl⟩) | (refine (inF (by omega) _).mono ?_; rintro e w' ⟨rfl, rfl⟩))
              refine HK.out.set2 (F := fun W => bodyPost _ _ _ Exit.ret _ W) ?_
              intro w3 hC3 hB3 _ _
              have g0 := hC3.cell 0
              have g1 := hC3.cell 1
              simp only [List.getElem?_toArray, List.getElem?_cons_zero, List.getElem?_cons_succ] at g0 g1
              refine bodyPost_ret (v := .tuple #[.string ⟨#[]⟩, .agg #[.int .i64 3, .int .i64 (U.hoff pre pre.length)]]) (by simp [results, Tryd.results12, go_sem, g0, g1]) rfl ?_
              exact ⟨HB.out.trans (hB3 _ (Nat.le_refl _)), fun h => absurd h HNE.out, fun _ => rfl⟩
            · have hlo2 : 57344 ≤ b := by omega
              clear hab
              go_wp2_with (go_at_call 57; first | (refine (inT (by omega) _).mono ?_; rintro e w' ⟨rfl, rfl⟩) | (refine (inF (by omega) _).mono ?_; rintro e w' ⟨rfl, rfl⟩))
              refine HK.out.set2 (F := fun W => bodyPost _ _ _ Exit.ret _ W) ?_
              intro w3 hC3 hB3 _ _
              have g0 := hC3.cell 0
              have g1 := hC3.cell 1
              simp only [List.getElem?_toArray, List.getElem?_cons_zero, List.getElem?_cons_succ] at g0 g1
              refine bodyPost_ret (v := .tuple #[.string ⟨#[]⟩, .agg #[.int .i64 3, .int .i64 (U.hoff pre pre.length)]]) (by simp [results, Tryd.results12, go_sem, g0, g1]) rfl ?_
              exact ⟨HB.out.trans (hB3 _ (Nat.le_refl _)), fun h => absurd h HNE.out, fun _ => rfl⟩
          · clear hab
            go_wp2_with (go_at_call 57; first | (refine (inT (by omega) _).mono ?_; rintro e w' ⟨rfl, rfl⟩) | (refine (inF (by omega) _).mono ?_; rintro e w' ⟨rfl, rfl⟩))
            refine HK.out.set2 (F := fun W => bodyPost _ _ _ Exit.ret _ W) ?_
            intro w3 hC3 hB3 _ _
            have g0 := hC3.cell 0
            have g1 := hC3.cell 1
            simp only [List.getElem?_toArray, List.getElem?_cons_zero, List.getElem?_cons_succ] at g0 g1
            refine bodyPost_ret (v := .tuple #[.string ⟨#[]⟩, .agg #[.int .i64 3, .int .i64 (U.hoff pre pre.length)]]) (by simp [results, Tryd.results12, go_sem, g0, g1]) rfl ?_
            exact ⟨HB.out.trans (hB3 _ (Nat.le_refl _)), fun h => absurd h HNE.out, fun _ => rfl⟩
end Go.Proofs.YtkiigheleoncfaaDoor
