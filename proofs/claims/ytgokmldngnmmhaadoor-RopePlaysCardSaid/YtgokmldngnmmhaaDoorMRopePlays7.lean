/- Several texts of the proof, one behind the other: RefR, RefH, RopeF, RopeG, RopeI, RopeJ. -/
import Derived.Test.YtgokmldngnmmhaaDoorMRopePlays6
import Derived.Test.YtgokmldngnmmhaaDoorMRopePlays2
import Derived.Lib.Bytealg
import Derived.Test.YtgokmldngnmmhaaDoorMRopePlays4
import Derived.Deep.AppendLies
import Derived.Deep.RegionLaw
/- The reference's Runes. -/
namespace Go.Proofs.YtgokmldngnmmhaaDoor
open Go.RowKit
set_option maxRecDepth 100000
theorem first_at {s : U.Bs} {r : Int} {n : Nat} (h : U.next s = (r, n)) (w : World) (hl : s.length ≤ 140737488351232) :
    Calls Tryd.prog 69 #[.string ⟨s.toArray⟩] w fun e w' => e = .returned (.tuple #[.int .i32 r, .int .i64 n]) ∧ Below w.heap.size w w' := by
  have := first_calls hl w
  rw [h] at this
  exact this
theorem own_below {w w' : World} {base : Nat} {e : TypeId} {size : Nat} {v : Value} {n : Nat} {xs : List Value} (h : w.ownsRow base e size v n xs) (hb : Below w.heap.size w w') : w'.ownsRow base e size v n xs := by
  rcases h with ⟨h1, h | ⟨g, cap, cur, h2, h3, hg, h4⟩⟩
  · exact ⟨h1, .inl h⟩
  · exact ⟨h1, .inr ⟨g, cap, cur, h2, h3, (hb.block g (Array.getElem?_eq_some_iff.1 hg).1).trans hg, h4⟩⟩
theorem own_far {w w' : World} {g0 : Nat} {e : TypeId} {size : Nat} {v : Value} {n : Nat} {xs : List Value} (h : w.ownsRow (g0 + 1) e size v n xs) (hf : ∀ g', g' ≠ g0 → w'.heap[g']? = w.heap[g']?) : w'.ownsRow (g0 + 1) e size v n xs := by
  rcases h with ⟨h1, h | ⟨g, cap, cur, h2, h3, hg, h4⟩⟩
  · exact ⟨h1, .inl h⟩
  · exact ⟨h1, .inr ⟨g, cap, cur, h2, h3, (hf g (by omega)).trans hg, h4⟩⟩
def RRunesPost (rs : List Int) (rest : U.Bs) (w : World) (e : Ending) (w' : World) : Prop :=
  Below w.heap.size w w' ∧ (rest = [] → ∃ v, e = .returned (.tuple #[v, fltV 0 (-1)]) ∧ Sl w' 1 v rs.length (i32s rs)) ∧
    (rest ≠ [] → e = .returned (.tuple #[.slice none 0 0, fltV 3 (U.off rs rs.length)]))
section
attribute [local go_sem] ext_drop
set_option maxHeartbeats 2000000 in
theorem rrunes_calls {s : U.Bs} {rs : List Int} {rest : U.Bs} (h : U.Sp s rs rest) (w : World) (hs : s.length ≤ 35184372087808) :
    Calls Tryd.prog 14 #[.string ⟨s.toArray⟩] w (RRunesPost rs rest w) := by
  have H := Hd.mk h
  have hlen := h.length
  have hll := U.len_le_off rs
  clear h
  have HL := Hd.mk hlen
  have hle : U.off rs rs.length ≤ s.length := by omega
  clear hlen
  go_enter Tryd.func14, Tryd.ntmps14
  go_wp2_with fail
  go_loopw [2, 4, 5] (fun t v i wr => t = .slice none 0 0 ∧ ∃ k : Nat, k ≤ rs.length ∧ i = .int .i64 (U.off rs k) ∧ wr.ownsRow (w.heap.size + 1) 21 1 v k (i32s (rs.take k)) ∧ Blk wr w.heap.size 25 #[.int .i64 0, .int .i64 0] ∧ Below w.heap.size w wr) (fun _ _ i _ => s.length - (intOf i).toNat)
  case atStart => exact ⟨rfl, 0, by omega, rfl, World.ownsRow_nil _ _ _ _, Blk.new _ _ _, (by repeat (first | exact Below.refl _ _ | exact ex_drew (by assumption) | apply ex_drew | apply ex_drewN | apply ex_alloc | assumption))⟩
  case round =>
    obtain ⟨rfl, k, hk, rfl, hown, hblk, hbel⟩ := hrel
    have hb0 : w.heap.size + 1 ≤ wr.heap.size := by have := hblk.lt; omega
    have HB := Hd.mk hbel
    have HK := Hd.mk hblk
    have hgl := hblk.lt
    have hok : U.off rs k ≤ U.off rs rs.length := U.off_le hk
    by_cases hlt : k < rs.length
    · have hol : U.off rs k < U.off rs rs.length := U.off_lt hlt
      have HN := Hd.mk (H.out.next_at hlt)
      have HO := Hd.mk (U.off_succ hlt)
      have hw1 := U.wid_pos rs[k]
      have hw2 := U.wid_le rs[k]
      generalize hr : rs[k] = r at *
      have HR := Hd.mk hr
      clear hr
      have hlt' : U.off rs k < s.length := by omega
      have hn0 : ((U.wid r : Int) == 0) = false := by rw [beq_eq_false_iff_ne]; omega
      have HOS := Hd.mk hown
      clear hown hbel hblk
      go_wp2_with fail
      refine (first_at HN.out _ (by rw [List.length_drop]; omega)).mono ?_
      rintro e w1 ⟨rfl, hb1⟩
      have HB1 := Hd.mk (HB.out.trans (hb1.mono (by omega)))
      have HK1 := Hd.mk (HK.out.below hb1 hgl)
      have HO1 := Hd.mk (own_below HOS.out hb1)
      have hb2 : w.heap.size + 1 ≤ w1.heap.size := by have := hb1.size; omega
      clear hb1 HOS HK HB
      go_wp2_with (at_builtin; refine append_lit el_i32 #[.int .i32 r] HO1.out rfl rfl rfl rfl rfl (one1 rfl) (by unfold maxLen; omega) (by omega) hb2 ?_; intro v1 w2 hown1 hbel1 _)
      have e1 : i32s (rs.take (k + 1)) = i32s (rs.take k) ++ #[Value.int .i32 r].toList := by
        rw [List.take_succ_eq_append_getElem hlt, i32s, List.map_append, ← HR.out]; rfl
      rw [← e1] at hown1
      refine ⟨⟨rfl, k + 1, by omega, by rw [HO.out]; go_num, hown1, HK1.out.below hbel1 (by omega), HB1.out.trans (hbel1.mono (by omega))⟩, ?_⟩
      simp only [intOf]; omega
    · obtain rfl : k = rs.length := by omega
      rw [List.take_length] at hown
      have HF := Hd.mk hown
      clear hown hbel hblk
      by_cases hr : rest = []
      · have hge : ¬ U.off rs rs.length < s.length := by have := HL.out; rw [hr] at this; simp at this; omega
        have HRE := Hd.mk hr
        clear hlt hr
        go_wp2_with fail
        refine (bareR_calls 0 _).mono ?_
        rintro e w1 ⟨rfl, hb1⟩
        have hK1 := HK.out.below hb1 hgl
        have HF1 := Hd.mk (own_below HF.out hb1)
        have HK1 := Hd.mk hK1
        have hf := hK1.frozen
        have c0 := hK1.cell 0
        have c1 := hK1.cell 1
        simp only [List.getElem?_toArray, List.getElem?_cons_zero, List.getElem?_cons_succ] at c0 c1
        have HB1 := Hd.mk (HB.out.trans (hb1.mono (by omega)))
        clear hK1 hb1
        go_wp2_with fail
        refine HK1.out.set2 (F := fun W => bodyPost _ _ _ Exit.ret _ W) ?_
        intro w3 hC3 hB3 _ hfar
        have g0 := hC3.cell 0
        have g1 := hC3.cell 1
        simp only [List.getElem?_toArray, List.getElem?_cons_zero, List.getElem?_cons_succ] at g0 g1
        refine bodyPost_ret (v := .tuple #[u4, fltV 0 (-1)]) (by simp [results, fltV, Tryd.results14, go_sem, g0, g1]) rfl ?_
        exact ⟨HB1.out.trans (hB3 _ (Nat.le_refl _)), fun _ => ⟨u4, rfl, Sl.of_own (own_far HF1.out hfar)⟩, fun h => absurd HRE.out h⟩
      · have hlt' : U.off rs rs.length < s.length := by
          have := HL.out
          have h2 : 0 < rest.length := List.length_pos_iff.2 hr
          omega
        have HN := Hd.mk H.out.next_end
        have HR := Hd.mk hr
        clear hlt hr HF
        go_wp2_with fail
        refine (first_at HN.out _ (by rw [List.length_drop]; omega)).mono ?_
        rintro e w1 ⟨rfl, hb1⟩
        have HB1 := Hd.mk (HB.out.trans (hb1.mono (by omega)))
        have hK1 := HK.out.below hb1 hgl
        have HK1 := Hd.mk hK1
        have hf := hK1.frozen
        have c0 := hK1.cell 0
        have c1 := hK1.cell 1
        simp only [List.getElem?_toArray, List.getElem?_cons_zero, List.getElem?_cons_succ] at c0 c1
        clear hK1 hb1
        go_wp2_with fail
        refine HK1.out.set2 (F := fun W => bodyPost _ _ _ Exit.ret _ W) ?_
        intro w3 hC3 hB3 _ _
        have g0 := hC3.cell 0
        have g1 := hC3.cell 1
        simp only [List.getElem?_toArray, List.getElem?_cons_zero, List.getElem?_cons_succ] at g0 g1
        refine bodyPost_ret (v := .tuple #[.slice none 0 0, fltV 3 (U.off rs rs.length)]) (by simp [results, fltV, Tryd.results14, go_sem, g0, g1]) rfl ?_
        exact ⟨HB1.out.trans (hB3 _ (Nat.le_refl _)), fun h => absurd h HR.out, fun _ => rfl⟩
end
end Go.Proofs.YtgokmldngnmmhaaDoor
/- ref.Halves, strings.Count of one byte, ref.Count. -/
namespace Go.Proofs.YtgokmldngnmmhaaDoor
open Go.RowKit
set_option maxRecDepth 100000
theorem hoff_bd (rs : List Int) (k : Nat) : U.hoff rs k ≤ 2 * k := by
  have := U.hvs_len_le (rs.take k)
  rw [List.length_take] at this
  unfold U.hoff; omega
set_option maxHeartbeats 2000000 in
theorem rhalves_calls {rs : List Int} {v : Value} {w : World} (hall : U.AllR rs) (hsl : Sl w 1 v rs.length (i32s rs)) (hn : rs.length ≤ 35184372087808) :
    Calls Tryd.prog 22 #[v] w fun e w' => (∃ v', e = .returned v' ∧ Sl w' 1 v' (U.hvs rs).length (u16s (U.hvs rs))) ∧ Below w.heap.size w w' := by
  have HSL := Hd.mk hsl
  have HA := Hd.mk hall
  obtain ⟨A, c, rfl, -⟩ := hsl
  clear hall
  go_enter Tryd.func22, Tryd.ntmps22
  go_wp2_with fail
  go_loopw [3, 9] (fun b i wr => ∃ k : Nat, k ≤ rs.length ∧ i = .int .i64 k ∧ wr.ownsRow w.heap.size 128 1 b (U.hoff rs k) (u16s (U.hvs (rs.take k))) ∧ Below w.heap.size w wr) (fun _ i _ => rs.length - (intOf i).toNat)
  case atStart => exact ⟨0, by omega, rfl, World.ownsRow_nil _ _ _ _, Below.refl _ _⟩
  case round =>
    obtain ⟨k, hk, rfl, hown, hbel⟩ := hrel
    have hb0 := hbel.size
    have HB := Hd.mk hbel
    by_cases hkn : k < rs.length
    · obtain ⟨ad, c', u, hv, _, hu, hc⟩ := (HSL.out.below hbel).at_ hkn
      cases hv
      have hu2 : u = .int .i32 rs[k] := by
        unfold i32s at hu
        rw [List.getElem?_map, List.getElem?_eq_getElem hkn] at hu
        simpa using hu.symm
      subst hu2
      have hrr := U.right_iff.1 (HA.out _ (List.getElem_mem hkn))
      have HHO := Hd.mk (U.hoff_succ hkn)
      have HTK : Hd (U.hvs (rs.take (k + 1)) = U.hvs (rs.take k) ++ U.hv rs[k]) := ⟨by rw [List.take_succ_eq_append_getElem hkn, U.hvs_append, U.hvs_cons, U.hvs_nil, List.append_nil]⟩
      have hol := hoff_bd rs k
      generalize rs[k] = r at hrr hc HHO HTK
      have hr0 : 0 ≤ r := by omega
      have hr1 : r ≤ 1114111 := by omega
      have HOW := Hd.mk hown
      clear hrr hown hbel hu
      by_cases hsm : r < 65536
      · have e1 : U.hv r = [r] := by unfold U.hv; rw [if_pos hsm]
        have e2 : U.hwid r = 1 := by unfold U.hwid; rw [if_pos hsm]
        have HE := Hd.mk (And.intro e1 e2)
        clear e1 e2
        go_wp2_with (at_builtin; refine append_lit el_u16 #[.int .u16 r] HOW.out rfl rfl rfl rfl rfl (one1 rfl) (by unfold maxLen; omega) (by omega) hb0 ?_; intro v1 w2 hown1 hbel1 _)
        refine ⟨⟨k + 1, by omega, by go_num, ?_, HB.out.trans hbel1⟩, ?_⟩
        · rw [HHO.out, HTK.out, HE.out.1, HE.out.2, u16s_append]; exact hown1
        · simp only [intOf]; omega
      · have e1 : U.hv r = [55296 + (r - 65536) / 1024, 56320 + (r - 65536) % 1024] := by unfold U.hv; rw [if_neg hsm]
        have e2 : U.hwid r = 2 := by unfold U.hwid; rw [if_neg hsm]
        have HE := Hd.mk (And.intro e1 e2)
        clear e1 e2
        go_wp2_with (at_builtin; refine append_lit el_u16 #[.int .u16 (55296 + (r - 65536) / 1024), .int .u16 (56320 + (r - 65536) % 1024)] HOW.out rfl rfl rfl rfl rfl (one2 rfl rfl) (by unfold maxLen; omega) (by omega) hb0 ?_; intro v1 w2 hown1 hbel1 _)
        refine ⟨⟨k + 1, by omega, by go_num, ?_, HB.out.trans hbel1⟩, ?_⟩
        · rw [HHO.out, HTK.out, HE.out.1, HE.out.2, u16s_append]; exact hown1
        · simp only [intOf]; omega
    · obtain rfl : k = rs.length := by omega
      rw [List.take_length, U.hoff_full] at hown
      have hsl := Sl.of_own hown
      have HS2 := Hd.mk hsl
      clear hown hbel hsl
      go_wp2_with fail
      go_ret
      exact ⟨⟨_, rfl, HS2.out⟩, HB.out⟩
set_option maxHeartbeats 1000000 in
theorem strCount_calls (s : ByteArray) (c : UInt8) (w : World) :
    Calls Tryd.prog 73 #[.string s, .string ⟨#[c]⟩] w fun e w' => e = .returned (.int .i64 (Lib.countByte s.data.toList c)) ∧ w' = w := by
  go_enter Tryd.func73, Tryd.ntmps73
  go_wp2
  rw [run_callFunc_extern Tryd.func119 (by kernel_rfl) (by kernel_rfl) (by kernel_rfl) (e := Extern.BytealgCount.count) (by kernel_rfl), Lib.run_countString]
  simp only [Result.andThen]
  rw [Oper.upon_value]
  go_wp2
  go_ret
  exact ⟨rfl, rfl⟩
theorem by8_ne {x : Int} (h0 : 0 ≤ x) (h1 : x < 256) (hx : x ≠ 10) : (U.by8 x == 10) = false := by
  rw [beq_eq_false_iff_ne]
  intro e
  have t := U.by8_toNat h0 h1
  rw [e] at t
  have h10 : (((10 : UInt8).toNat : Nat) : Int) = 10 := rfl
  omega
theorem enc_nl {r : Int} (h : U.right r = true) : (U.enc r).count 10 = if r = 10 then 1 else 0 := by
  have hr := U.right_iff.1 h
  unfold U.enc
  by_cases c1 : r < 128
  · rw [if_pos c1]
    by_cases e : r = 10
    · subst e; rfl
    · rw [if_neg e, List.count_cons, by8_ne (by omega) (by omega) e]; rfl
  · rw [if_neg c1, if_neg (show ¬ r = 10 by omega)]
    by_cases c2 : r < 2048
    · rw [if_pos c2, List.count_cons, List.count_cons, by8_ne (by omega) (by omega) (by omega), by8_ne (by omega) (by omega) (by omega)]; rfl
    · rw [if_neg c2]
      by_cases c3 : r < 65536
      · rw [if_pos c3, List.count_cons, List.count_cons, List.count_cons, by8_ne (by omega) (by omega) (by omega), by8_ne (by omega) (by omega) (by omega), by8_ne (by omega) (by omega) (by omega)]; rfl
      · rw [if_neg c3, List.count_cons, List.count_cons, List.count_cons, List.count_cons, by8_ne (by omega) (by omega) (by omega), by8_ne (by omega) (by omega) (by omega), by8_ne (by omega) (by omega) (by omega), by8_ne (by omega) (by omega) (by omega)]; rfl
/-- What a text counts: bytes, halves, runes, line ends. -/
theorem cnt_full {rs : List Int} (h : U.AllR rs) : cnt rs = ⟨(U.encs rs).length, (U.hvs rs).length, rs.length, ((U.encs rs).count 10 : Nat)⟩ := by
  suffices hs : ∀ n (rs : List Int), rs.length = n → U.AllR rs → cnt rs = ⟨(U.encs rs).length, (U.hvs rs).length, rs.length, ((U.encs rs).count 10 : Nat)⟩ from hs _ rs rfl h
  clear h rs
  intro n
  induction n with
  | zero => intro rs hl _; obtain rfl := List.eq_nil_of_length_eq_zero hl; rfl
  | succ n ih =>
    intro rs hl ha
    rcases List.eq_nil_or_concat rs with rfl | ⟨a, r, rfl⟩
    · simp at hl
    · rw [List.concat_eq_append] at *
      have hr : U.right r = true := ha r (by simp)
      have ha' : U.AllR a := fun x hx => ha x (by simp [hx])
      rw [cnt_snoc, ih a (by simpa using hl) ha', U.encs_append, U.hvs_append, U.encs_cons, U.encs_nil, U.hvs_cons, U.hvs_nil, List.append_nil, List.append_nil, List.count_append, enc_nl hr]
      simp only [Cn.add, oneC, List.length_append, U.hv_length, U.enc_length, List.length_cons, List.length_nil]
      refine Cn.mk.injEq .. |>.mpr ⟨by omega, ?_, by omega, ?_⟩
      · unfold U.hwid
        split <;> split <;> omega
      · split <;> omega
def RCountPost (rs : List Int) (rest : U.Bs) (w : World) (e : Ending) (w' : World) : Prop :=
  Below w.heap.size w w' ∧ (rest = [] → e = .returned (.tuple #[(cnt rs).v, fltV 0 (-1)])) ∧
    (rest ≠ [] → e = .returned (.tuple #[Cn.zero.v, fltV 3 (U.off rs rs.length)]))
/-- The stores of counts and of a fault into the results. -/
theorem cf_set {w : World} {g : Nat} {x y : Cn} {a b p q : Value} (h0 : CnBlk w g x) (h1 : Blk w (g + 1) 25 #[a, b]) {W : World}
    (hW : W = (((((w.setCell ⟨g, 0, none⟩ (.int .i64 y.b)).setCell ⟨g, 1, none⟩ (.int .i64 y.h)).setCell ⟨g, 2, none⟩ (.int .i64 y.r)).setCell ⟨g, 3, none⟩ (.int .i64 y.l)).setCell ⟨g + 1, 0, none⟩ p).setCell ⟨g + 1, 1, none⟩ q) :
    CnBlk W g y ∧ Blk W (g + 1) 25 #[p, q] ∧ (∀ B, B ≤ g → Below B w W) ∧ W.heap.size = w.heap.size := by
  subst hW
  refine h0.set4 (F := fun V => CnBlk ((V.setCell ⟨g + 1, 0, none⟩ p).setCell ⟨g + 1, 1, none⟩ q) g y ∧ Blk ((V.setCell ⟨g + 1, 0, none⟩ p).setCell ⟨g + 1, 1, none⟩ q) (g + 1) 25 #[p, q] ∧ (∀ B, B ≤ g → Below B w ((V.setCell ⟨g + 1, 0, none⟩ p).setCell ⟨g + 1, 1, none⟩ q)) ∧ ((V.setCell ⟨g + 1, 0, none⟩ p).setCell ⟨g + 1, 1, none⟩ q).heap.size = w.heap.size) ?_
  intro V hV hB hs hf
  have h1' : Blk V (g + 1) 25 #[a, b] := (hf (g + 1) (by omega)).trans h1
  refine ⟨?_, (h1'.set_ 0 p).set_ 1 q, fun B hb => ((hB B hb).setCell (p := ⟨g + 1, 0, none⟩) (show B ≤ g + 1 by omega) _).setCell (p := ⟨g + 1, 1, none⟩) (show B ≤ g + 1 by omega) _, by simp [hs]⟩
  exact (Below.heap_setCell _ ⟨g + 1, 1, none⟩ q g (by simp)).trans ((Below.heap_setCell _ ⟨g + 1, 0, none⟩ p g (by simp)).trans hV)
theorem cf_last {F : World → Prop} {w : World} {g : Nat} {x y : Cn} {a b p q : Value} (h0 : CnBlk w g x) (h1 : Blk w (g + 1) 25 #[a, b])
    (k : ∀ W, CnBlk W g y → Blk W (g + 1) 25 #[p, q] → (∀ B, B ≤ g → Below B w W) → F W) :
    F ((((((w.setCell ⟨g, 0, none⟩ (.int .i64 y.b)).setCell ⟨g, 1, none⟩ (.int .i64 y.h)).setCell ⟨g, 2, none⟩ (.int .i64 y.r)).setCell ⟨g, 3, none⟩ (.int .i64 y.l)).setCell ⟨g + 1, 0, none⟩ p).setCell ⟨g + 1, 1, none⟩ q) := by
  obtain ⟨x1, x2, x3, _⟩ := cf_set (y := y) (p := p) (q := q) h0 h1 rfl
  exact k _ x1 x2 x3
set_option maxHeartbeats 32000000 in
theorem rcount_calls {s : U.Bs} {rs : List Int} {rest : U.Bs} (h : U.Sp s rs rest) (w : World) (hs : s.length ≤ 35184372087808) :
    Calls Tryd.prog 18 #[.string ⟨s.toArray⟩] w (RCountPost rs rest w) := by
  have H := Hd.mk h
  have hlen := h.length
  have hll := U.len_le_off rs
  by_cases hr : rest = []
  · have hrl : rs.length ≤ 35184372087808 := by omega
    have HF : Hd ((cnt rs).v = .agg #[.int .i64 s.length, .int .i64 (U.hvs rs).length, .int .i64 rs.length, .int .i64 (Lib.countByte s 10 : Nat)]) := ⟨by
      rw [cnt_full h.all]
      have : s = U.encs rs := by have := h.eq; rw [hr, List.append_nil] at this; exact this
      rw [this]; rfl⟩
    have hcb : (Lib.countByte s 10 : Nat) ≤ s.length := List.count_le_length
    have hhl := U.hvs_len_le rs
    have HR := Hd.mk hr
    clear h hlen hll
    go_enter Tryd.func18, Tryd.ntmps18
    go_wp2_with fail
    refine (rrunes_calls H.out _ hs).mono ?_
    rintro e w1 ⟨hb1, hok, _⟩
    obtain ⟨v, rfl, hsl⟩ := hok HR.out
    have HS := Hd.mk hsl
    have HB1 := Hd.mk hb1
    obtain ⟨A, c, rfl, -⟩ := hsl
    have hR0 : CnBlk w1 w.heap.size Cn.zero := by
      have h0 : CnBlk ((w.alloc (.cells #[.int .i64 0, .int .i64 0, .int .i64 0, .int .i64 0] 36)).alloc (.cells #[.int .i64 0, .int .i64 0] 25)) w.heap.size Cn.zero := (Blk.new _ _ _).alloc _
      exact h0.below hb1 (by simp only [World.size_alloc]; omega)
    have hR1 : Blk w1 (w.heap.size + 1) 25 #[.int .i64 0, .int .i64 0] := by
      have h0 := Blk.new (w.alloc (.cells #[.int .i64 0, .int .i64 0, .int .i64 0, .int .i64 0] 36)) 25 #[.int .i64 0, .int .i64 0]
      rw [World.size_alloc] at h0
      exact h0.below hb1 (by simp only [World.size_alloc]; omega)
    have HR0 := Hd.mk hR0
    have HR1 := Hd.mk hR1
    obtain ⟨z0, z1, z2, z3⟩ := hR0.cells
    have zf := hR0.frozen
    have y0 := hR1.cell 0
    have y1 := hR1.cell 1
    have yf := hR1.frozen
    have l0 := hR0.lt
    have l1 := hR1.lt
    simp only [List.getElem?_toArray, List.getElem?_cons_zero, List.getElem?_cons_succ] at y0 y1
    clear hR0 hR1
    clear hok hr hb1
    unfold fltV
    go_wp2_with fail
    have HSd : Hd (Sl ((w1.alloc (.cells #[.int .i64 0, .int .i64 (-1)] 25)).drew) 1 (.slice A rs.length c) rs.length (i32s rs)) := ⟨HS.out.below (ex_drew (ex_alloc (Below.refl _ _) _))⟩
    have HRd : Hd (CnBlk ((w1.alloc (.cells #[.int .i64 0, .int .i64 (-1)] 25)).drew) w.heap.size Cn.zero ∧ Blk ((w1.alloc (.cells #[.int .i64 0, .int .i64 (-1)] 25)).drew) (w.heap.size + 1) 25 #[.int .i64 0, .int .i64 0] ∧ Blk ((w1.alloc (.cells #[.int .i64 0, .int .i64 (-1)] 25)).drew) w1.heap.size 25 #[.int .i64 0, .int .i64 (-1)]) :=
      ⟨(Below.heap_alloc w1 _ _ l0).trans HR0.out, HR1.out.alloc _, Blk.new _ _ _⟩
    have HBd : Hd (Below w.heap.size w ((w1.alloc (.cells #[.int .i64 0, .int .i64 (-1)] 25)).drew)) := ⟨ex_drew (ex_alloc ((ex_alloc (ex_alloc (Below.refl _ _) _) _).trans (HB1.out.mono (by simp only [World.size_alloc]; omega))) _)⟩
    go_region_with (first | (go_at_call 22; refine (rhalves_calls H.out.all HSd.out hrl).mono ?_; rintro e w2 ⟨⟨v2, rfl, hs2⟩, hb2⟩; have HB2 := Hd.mk hb2; obtain ⟨A2, c2, rfl, -⟩ := hs2; have r0 := HRd.out.1.below hb2 HRd.out.1.lt; have r1 := HRd.out.2.1.below hb2 HRd.out.2.1.lt; have r2 := HRd.out.2.2.below hb2 HRd.out.2.2.lt; obtain ⟨u0, u1, u2, u3⟩ := r0.cells; have uf := r0.frozen; have v0 := r1.cell 0; have v1 := r1.cell 1; have vf := r1.frozen; have t0 := r2.cell 0; have t1 := r2.cell 1; simp only [List.getElem?_toArray, List.getElem?_cons_zero, List.getElem?_cons_succ] at v0 v1 t0 t1; have HU0 := Hd.mk r0; have HU1 := Hd.mk r1; clear hb2 r0 r1 r2) | (go_at_call 73; refine (strCount_calls _ _ _).mono ?_; rintro e w3 ⟨rfl, rfl⟩))
    all_goals
      go_wp2_with fail
      refine cf_last (F := fun W => bodyPost _ _ _ Exit.ret _ W) (y := ⟨s.length, (U.hvs rs).length, rs.length, (Lib.countByte s 10 : Nat)⟩) HU0.out HU1.out ?_
      intro W x1 x2 x3
      obtain ⟨g0, g1, g2, g3⟩ := x1.cells
      have g4 := x2.cell 0
      have g5 := x2.cell 1
      simp only [List.getElem?_toArray, List.getElem?_cons_zero, List.getElem?_cons_succ] at g4 g5
      refine bodyPost_ret (v := .tuple #[(cnt rs).v, .agg #[.int .i64 0, .int .i64 (-1)]]) (by rw [HF.out]; simp [results, Tryd.results18, go_sem, g0, g1, g2, g3, g4, g5]) rfl ?_
      refine ⟨?_, fun _ => rfl, fun h => absurd HR.out h⟩
      exact (bstep HBd.out HB2.out).trans (x3 _ (Nat.le_refl _))
  · clear hlen hll
    go_enter Tryd.func18, Tryd.ntmps18
    go_wp2_with fail
    refine (rrunes_calls H.out _ hs).mono ?_
    rintro e w1 ⟨hb1, _, hbad⟩
    obtain rfl := hbad hr
    have HB1 := Hd.mk hb1
    have HR := Hd.mk hr
    have hR0 : CnBlk w1 w.heap.size Cn.zero := by
      have h0 : CnBlk ((w.alloc (.cells #[.int .i64 0, .int .i64 0, .int .i64 0, .int .i64 0] 36)).alloc (.cells #[.int .i64 0, .int .i64 0] 25)) w.heap.size Cn.zero := (Blk.new _ _ _).alloc _
      exact h0.below hb1 (by simp only [World.size_alloc]; omega)
    have hR1 : Blk w1 (w.heap.size + 1) 25 #[.int .i64 0, .int .i64 0] := by
      have h0 := Blk.new (w.alloc (.cells #[.int .i64 0, .int .i64 0, .int .i64 0, .int .i64 0] 36)) 25 #[.int .i64 0, .int .i64 0]
      rw [World.size_alloc] at h0
      exact h0.below hb1 (by simp only [World.size_alloc]; omega)
    have HR0 := Hd.mk hR0
    have HR1 := Hd.mk hR1
    obtain ⟨z0, z1, z2, z3⟩ := hR0.cells
    have zf := hR0.frozen
    have y0 := hR1.cell 0
    have y1 := hR1.cell 1
    have yf := hR1.frozen
    have l0 := hR0.lt
    have l1 := hR1.lt
    simp only [List.getElem?_toArray, List.getElem?_cons_zero, List.getElem?_cons_succ] at y0 y1
    clear hR0 hR1
    clear hbad hr hb1
    unfold fltV
    go_wp2_with fail
    go_region
    all_goals
      go_wp2_with fail
      obtain ⟨W, hW⟩ : ∃ W, W = (((((w1.setCell ⟨w.heap.size, 0, none⟩ (.int .i64 0)).setCell ⟨w.heap.size, 1, none⟩ (.int .i64 0)).setCell ⟨w.heap.size, 2, none⟩ (.int .i64 0)).setCell ⟨w.heap.size, 3, none⟩ (.int .i64 0)).setCell ⟨w.heap.size + 1, 0, none⟩ (.int .i64 3)).setCell ⟨w.heap.size + 1, 1, none⟩ (.int .i64 (U.off rs rs.length)) := ⟨_, rfl⟩
      obtain ⟨x1, x2, x3, x4⟩ := cf_set (y := Cn.zero) HR0.out HR1.out hW
      rw [← hW]
      have x5 := CnBlk.cells (show CnBlk ((W.alloc (.cells #[.int .i64 3, .int .i64 (U.off rs rs.length)] 25)).drew) w.heap.size Cn.zero from (Below.heap_alloc W _ _ x1.lt).trans x1)
      have x6 : Blk ((W.alloc (.cells #[.int .i64 3, .int .i64 (U.off rs rs.length)] 25)).drew) (w.heap.size + 1) 25 #[.int .i64 3, .int .i64 (U.off rs rs.length)] := x2.alloc _
      obtain ⟨g0, g1, g2, g3⟩ := x5
      have g4 := x6.cell 0
      have g5 := x6.cell 1
      simp only [List.getElem?_toArray, List.getElem?_cons_zero, List.getElem?_cons_succ] at g4 g5
      refine bodyPost_ret (v := .tuple #[Cn.zero.v, .agg #[.int .i64 3, .int .i64 (U.off rs rs.length)]]) (by simp [results, Tryd.results18, go_sem, g0, g1, g2, g3, g4, g5]) rfl ?_
      exact ⟨ex_drew (ex_alloc ((ex_alloc (ex_alloc (Below.refl _ _) _) _).trans ((HB1.out.mono (by simp only [World.size_alloc]; omega)).trans (x3 _ (Nat.le_refl _)))) _), fun h => absurd h HR.out, fun _ => rfl⟩
end Go.Proofs.YtgokmldngnmmhaaDoor
/- Counts, edge. -/
namespace Go.Proofs.YtgokmldngnmmhaaDoor
open Go.RowKit
set_option maxRecDepth 100000
attribute [local go_sem] Cn.v_eq
theorem counts_calls {p : Nat} {t : RT} {w : World} (h : AtR w p t) :
    Calls Tryd.prog 61 #[.pointer (some ⟨p, 0, none⟩)] w fun e w' => e = .returned (cnt t.runes).v ∧ Below w.heap.size w w' := by
  have HT := Hd.mk h.tree
  have c0 := h.blk.cell 0
  have lt := h.blk.lt
  simp only [List.getElem?_toArray, List.getElem?_cons_zero, RT.ptr] at c0
  clear h
  go_enter Tryd.func61, Tryd.ntmps61
  go_wp2_with (go_at_call 111; refine (all_calls (t := t) (HT.out.below (ex_alloc (Below.refl _ _) _))).mono ?_; rintro e w1 ⟨rfl, hb⟩; generalize hcc : cnt t.runes = c; have HCC := Hd.mk hcc; clear hcc; have hc : CnBlk w1 w.heap.size Cn.zero := CnBlk.below (heap_alloc_new w _) hb (by simp); obtain ⟨q0, q1, q2, q3⟩ := hc.cells; have qf := hc.frozen; have ql := hc.lt; have HC := Hd.mk hc; have HB := Hd.mk hb; clear hb hc)
  refine HC.out.set4 (F := fun W => bodyPost _ _ _ Exit.ret _ W) (y := c) ?_
  intro w3 hC3 hB3 hs3 hf3
  obtain ⟨g0, g1, g2, g3⟩ := hC3.cells
  refine bodyPost_ret (v := c.v) (by simp [results, Tryd.results61, go_sem, g0, g1, g2, g3]) rfl ?_
  exact ⟨by rw [HCC.out], ((ex_alloc (Below.refl _ _) _).trans (HB.out.mono (by simp))).trans (hB3 _ (Nat.le_refl _))⟩
attribute [local go_sem] field_cn cnt_b
theorem byte_at {s : U.Bs} {j : Nat} (h : j < s.length) (hh) : (ByteArray.mk s.toArray)[j]'hh = s.getD j 0 := by
  have : (ByteArray.mk s.toArray)[j]'hh = s[j] := rfl
  rw [this]; simp [h]
/-- The chunk that a place lies in has its byte. -/
theorem redg_chunk {t : RT} {a b : List (List Int)} {c : List Int} {k j : Nat} (h : t.chunks = a ++ c :: b) (hk : k = cb a + j) (hj : j < bl c) : redg (U.encs t.runes) k = !U.cont ((U.encs c).getD j 0) := by
  have e : U.encs t.runes = U.encs a.flatten ++ (U.encs c ++ U.encs b.flatten) := by
    rw [RT.runes_chunks, h, List.flatten_append, List.flatten_cons, U.encs_append, U.encs_append]
  have la : (U.encs a.flatten).length = cb a := rfl
  have lc : (U.encs c).length = bl c := rfl
  unfold redg
  rw [e, decide_eq_false (by simp only [List.length_append, la, lc]; omega)]
  rw [List.getD_eq_getElem?_getD, List.getElem?_append_right (by omega), la, hk, Nat.add_sub_cancel_left, List.getElem?_append_left (by omega), ← List.getD_eq_getElem?_getD, Bool.false_or]
set_option maxHeartbeats 1000000 in
theorem edge_calls {p k : Nat} {t : RT} {w : World} (h : AtR w p t) (hg : Good t) (hk : k ≤ bl t.runes) :
    Calls Tryd.prog 100 #[.pointer (some ⟨p, 0, none⟩), .int .i64 k] w fun e w' => e = .returned (.bool (redg (U.encs t.runes) k)) ∧ Below w.heap.size w w' := by
  have HR := Hd.mk h
  have HG := Hd.mk hg
  have hsz := hg.sz
  by_cases he : k = bl t.runes
  · have hb : ((k : Int) == (bl t.runes : Int)) = true := by rw [he]; exact beq_self_eq_true _
    have HE : Hd (redg (U.encs t.runes) k = true) := ⟨by unfold redg; rw [decide_eq_true (by rw [he]; rfl)]; rfl⟩
    clear h hg hk he
    go_enter Tryd.func100, Tryd.ntmps100
    go_wp2_with (go_at_call 61; refine (counts_calls HR.out).mono ?_; rintro e w1 ⟨rfl, hb1⟩; simp only [Cn.v_eq, cnt_b]; have HB := Hd.mk hb1; clear hb1)
    go_ret
    rw [HE.out]
    exact ⟨rfl, HB.out⟩
  · have hb : ((k : Int) == (bl t.runes : Int)) = false := by rw [beq_eq_false_iff_ne]; omega
    have hn : t ≠ .nil := by rintro rfl; simp at he hk; exact he hk
    obtain ⟨a, c, b, h1, h2, h3, h4⟩ := RT.findT_chunks (k := k) (f := 0) hg.ne hn (Nat.zero_le _)
    rw [Nat.zero_add] at h2 h3 h4
    have hj : k < cb a + bl c := by
      rcases h4 with h4 | rfl
      · exact h4
      · have := cb_runes t
        rw [h1] at this
        simp at this
        omega
    obtain ⟨j, hj2⟩ : ∃ j, k = cb a + j := ⟨k - cb a, by omega⟩
    have hjc : j < bl c := by omega
    have HE : Hd (redg (U.encs t.runes) k = !U.cont ((U.encs c).getD j 0)) := ⟨redg_chunk h1 hj2 hjc⟩
    have hfb : cb a ≤ 8000 := by omega
    have HF := Hd.mk (fun w1 (hb : Below w.heap.size w w1) => find_calls (k := k) (h.below hb) (by omega) (by omega))
    rw [h2] at HF
    generalize hca : cb a = f at *
    subst hj2
    have hlc : j < (U.encs c).length := hjc
    have hl : (U.encs c).length = bl c := rfl
    have hlb : (U.encs c).length ≤ 8000 := by have := hg.le c (by rw [h1]; simp); omega
    have e0 := fun hh => byte_at (s := U.encs c) (j := j) hlc hh
    clear h hg hk he hn h1 h2 h3 h4 hj hca hjc hl
    by_cases hc : U.cont ((U.encs c).getD j 0) = true
    · have h1 := contT hc
      rw [hc] at HE
      clear hc
      generalize (U.encs c).getD j 0 = x at *
      have hx := x.toNat_lt
      go_enter Tryd.func100, Tryd.ntmps100
      go_wp2_with (first
        | (go_at_call 61; refine (counts_calls HR.out).mono ?_; rintro e w1 ⟨rfl, hb1⟩; simp only [Cn.v_eq, cnt_b]; have HB := Hd.mk hb1; clear hb1)
        | (go_at_call 101; refine (HF.out _ HB.out).mono ?_; rintro e w2 ⟨rfl, hb2⟩; have HB2 := Hd.mk hb2; clear hb2))
      go_ret
      rw [HE.out]
      exact ⟨rfl, HB.out.trans (HB2.out.mono HB.out.size)⟩
    · have h1 := contF hc
      rw [show U.cont ((U.encs c).getD j 0) = false by simpa using hc] at HE
      clear hc
      generalize (U.encs c).getD j 0 = x at *
      have hx := x.toNat_lt
      go_enter Tryd.func100, Tryd.ntmps100
      go_wp2_with (first
        | (go_at_call 61; refine (counts_calls HR.out).mono ?_; rintro e w1 ⟨rfl, hb1⟩; simp only [Cn.v_eq, cnt_b]; have HB := Hd.mk hb1; clear hb1)
        | (go_at_call 101; refine (HF.out _ HB.out).mono ?_; rintro e w2 ⟨rfl, hb2⟩; have HB2 := Hd.mk hb2; clear hb2))
      go_ret
      rw [HE.out]
      exact ⟨rfl, HB.out.trans (HB2.out.mono HB.out.size)⟩
end Go.Proofs.YtgokmldngnmmhaaDoor
/- cuts. -/
namespace Go.Proofs.YtgokmldngnmmhaaDoor
open Go.RowKit
set_option maxRecDepth 100000
theorem el_str : El Tryd.prog 144 9 1 16 := El.mk' Tryd.underlying144 (by kernel_rfl) (by decide)
/-- Chunks as a row of strings. -/
def cstr (cs : List (List Int)) : List Value := cs.map fun c => .string ⟨(U.encs c).toArray⟩
theorem cstr_append (a b : List (List Int)) : cstr (a ++ b) = cstr a ++ cstr b := by simp [cstr]
theorem cstr_one (c : List Int) : cstr [c] = (#[Value.string ⟨(U.encs c).toArray⟩] : Array Value).toList := rfl
theorem ext_take0 {s : U.Bs} {k : Nat} (hk : k ≤ s.length) : (ByteArray.mk s.toArray).extract 0 k = ⟨(s.take k).toArray⟩ := by
  simp [ByteArray.extract, ByteArray.copySlice, hk]
theorem take_fill (rs : List Int) (k : Nat) : (U.encs rs).take (bl (fill rs k)) = U.encs (fill rs k) ∧ (U.encs rs).drop (bl (fill rs k)) = U.encs (rs.drop (fill rs k).length) := by
  have e : U.encs rs = U.encs (fill rs k) ++ U.encs (rs.drop (fill rs k).length) := by rw [← U.encs_append, ← fill_drop]
  unfold bl
  constructor
  · conv => lhs; rw [e]
    exact List.take_left
  · conv => lhs; rw [e]
    exact List.drop_left
/-- Where the cut is sought. -/
theorem cut_here {rs : List Int} (h : U.AllR rs) {k : Nat} (h1 : bl (fill rs 32) ≤ k) (h2 : k ≤ 32) (h3 : 32 < bl rs) : U.cont ((U.encs rs).getD k 0) = decide (bl (fill rs 32) < k) := by
  have hr := redg_iff h (a := k) (by omega)
  have hn : k ≠ (U.encs rs).length := by have : (U.encs rs).length = bl rs := rfl; omega
  unfold redg at hr
  rw [decide_eq_false hn, Bool.false_or] at hr
  by_cases hk : bl (fill rs 32) < k
  · rw [decide_eq_true hk]
    cases hc : U.cont ((U.encs rs).getD k 0) with
    | true => rfl
    | false =>
      exfalso
      rw [hc] at hr
      obtain ⟨p, q, e, hb⟩ := hr.1 rfl
      have := fill_max e (k := 32) (by omega)
      omega
  · rw [decide_eq_false hk]
    obtain ⟨q, e⟩ := fill_pre rs 32
    have := hr.2 ⟨fill rs 32, q, e, by omega⟩
    simpa using this
theorem cutR_step {rs : List Int} (h : 32 < bl rs) : cutR rs = fill rs 32 :: cutR (rs.drop (fill rs 32).length) := by
  conv => lhs; unfold cutR
  rw [dif_pos h]
theorem cutR_last {rs : List Int} (h : ¬ 32 < bl rs) : cutR rs = if rs = [] then [] else [rs] := by
  conv => lhs; unfold cutR
  rw [dif_neg h]
section
variable {P : Program}
/-- append(own, x) of a literal of one block, at a step of a region that draws. -/
theorem step_app {ops : Array Oper} {o : Oper} {a : Act} {w : World} {K : Act → World → Prop} {Q : Exit → Act → World → Prop} {F : Prop} {s x : Operand} {t e : TypeId} {size bytes base n m B : Nat} {v : Value} {xs : List Value} {cs : Array Value}
    (E : El P t e size bytes) (hgd : o.guard = none) (ho : o.op = .call { callee := .builtin .append, args := #[s, x], argTypes := #[t, t] }) (hs : a.eval s = v) (hown : w.ownsRow base e size v n xs)
    (hx : a.eval x = .slice (some ⟨B, 0, none⟩) m m) (hb : w.heap[B]? = some (.cells cs e (0, 0))) (hl : cs.toList.length = m * size) (h1 : ∀ u ∈ cs.toList, u.oneCell' = true) (hm : 0 < m)
    (h63 : n + m ≤ maxLen) (hbytes : (n + m) * bytes ≤ 140737488355328) (hbase : base ≤ w.heap.size)
    (h : ∀ g cap w', w'.ownsRow base e size (.slice (some ⟨g, 0, none⟩) (n + m) cap) (n + m) (xs ++ cs.toList) → Below base w w' → K (a.put o.dst (.slice (some ⟨g, 0, none⟩) (n + m) cap)) w') :
    if Region.wanted o (yielded ops a.tmps) = true then Oper.wp P o a w K Q else F := by
  obtain ⟨i, z, hi, hz, hsi, hby, hzs⟩ := E.hi
  refine step_append_lies w hgd s x t ho base e i z size bytes E.ht hi hz hsi hby hzs E.pos v n xs hs hown ⟨B, 0, none⟩ m m cs.toList hx hl (World.news_of_block hb) h1 hm h63 hbytes hbase _ rfl ?_
  intro g cap w' ho' hg _ _
  have hlt := hown.lt
  exact h g cap w' ho' ⟨hg.os, hg.tape, hg.output, hg.size, fun k hk => hg.block k (by omega) (fun e => by have := (hlt k e.symm).1; omega)⟩
end
theorem bl_drop (rs : List Int) (k : Nat) : bl (rs.drop k) = bl rs - bl (rs.take k) := by
  have : rs = rs.take k ++ rs.drop k := (List.take_append_drop k rs).symm
  conv => rhs; lhs; rw [this]
  rw [bl_append]; omega
attribute [local go_sem] ext_drop
set_option maxHeartbeats 4000000 in
theorem cuts_calls {rs : List Int} (hr : U.AllR rs) (hs : bl rs ≤ 1000000) (w : World) :
    Calls Tryd.prog 129 #[.string ⟨(U.encs rs).toArray⟩] w fun e w' => ∃ v, e = .returned v ∧ Below w.heap.size w w' ∧ w'.ownsRow w.heap.size 9 1 v (cutR rs).length (cstr (cutR rs)) := by
  have HR := Hd.mk hr
  have HS := Hd.mk hs
  clear hr hs
  go_enter Tryd.func129, Tryd.ntmps129
  go_wp2_with fail
  go_loopg [0, 3] rs.length (fun gk sv out wr => ∃ (d : List (List Int)) (q : List Int), sv = .string ⟨(U.encs q).toArray⟩ ∧ cutR rs = d ++ cutR q ∧ U.AllR q ∧ q.length = gk ∧ bl q ≤ bl rs ∧ d.length + q.length ≤ rs.length ∧ wr.ownsRow w.heap.size 9 1 out d.length (cstr d) ∧ Below w.heap.size w wr)
  case atStart => exact ⟨[], rs, rfl, rfl, HR.out, rfl, Nat.le_refl _, by simp, ⟨rfl, .inl ⟨rfl, rfl⟩⟩, Below.refl _ _⟩
  case round =>
    obtain ⟨d, q, rfl, hc, hq, hg, hb, hdl, hown, hbel⟩ := hrel
    have HC := Hd.mk hc
    have HQ := Hd.mk hq
    have HG := Hd.mk hg
    have HO := Hd.mk hown
    have HB := Hd.mk hbel
    have hrl := bl_len rs
    have hs := HS.out
    have HDL : Hd (d.length + q.length ≤ 1000000) := ⟨by omega⟩
    have hlq : (U.encs q).length = bl q := rfl
    have hbq : bl q ≤ 1000000 := by omega
    have HBQ := Hd.mk hb
    have HDL0 := Hd.mk hdl
    clear hc hq hg hown hbel hrl hs hdl
    by_cases h1 : 32 < bl q
    · have hi : (32 : Int) < (bl q : Int) := by omega
      have HFL : Hd (bl (fill q 32) ≤ 32 ∧ fill q 32 ≠ []) := ⟨fill_le _ _, fill_ne (by rintro rfl; simp at h1) (by omega)⟩
      have HTF := Hd.mk (take_fill q 32)
      have HST := Hd.mk (cutR_step h1)
      have HCU : Hd (∀ k, bl (fill q 32) ≤ k → k ≤ 32 → U.cont ((U.encs q).getD k 0) = decide (bl (fill q 32) < k)) := ⟨fun k h2 h3 => cut_here HQ.out h2 h3 h1⟩
      go_wp2_with fail
      go_loopg [4] 32 (fun gk kv wr' => ∃ k : Nat, kv = .int .i64 k ∧ k = gk ∧ bl (fill q 32) ≤ k ∧ k ≤ 32 ∧ wr' = wr)
      case atStart => exact ⟨32, rfl, rfl, HFL.out.1, Nat.le_refl _, rfl⟩
      case round =>
        obtain ⟨k, rfl, hk0, hk1, hk2, rfl⟩ := hrel
        have e0 := fun hh => byte_at (s := U.encs q) (j := k) (by omega) hh
        have hcc := HCU.out k hk1 hk2
        have HK1 := Hd.mk hk1
        by_cases h2 : bl (fill q 32) < k
        · rw [decide_eq_true h2] at hcc
          have hct := contT hcc
          have HK0 := Hd.mk hk0
          have HK2 := Hd.mk h2
          clear hcc h2 hk0 hk1
          generalize (U.encs q).getD k 0 = x at *
          have hx := x.toNat_lt
          go_wp2_with fail
          go_roundg (k - 1)
          case rel => exact ⟨k - 1, by congr 1; have := HK2.out; omega, rfl, by have := HK2.out; omega, by omega, rfl⟩
          case measure => have := HK0.out; have := HK2.out; omega
        · have hke : bl (fill q 32) = k := by omega
          rw [decide_eq_false h2] at hcc
          have hct := contF (by rw [hcc]; exact Bool.false_ne_true)
          rw [hke] at HTF
          clear hcc h2 hk0 hk1
          have hx := ((U.encs q).getD k 0).toNat_lt
          generalize (U.encs q).getD k 0 = x at *
          have hkl : k ≤ (U.encs q).length := by omega
          have e1 := ext_take0 hkl
          have e2 : (ByteArray.mk (U.encs q).toArray).extract k (bl q) = ⟨((U.encs q).drop k).toArray⟩ := ext_drop _ _
          rw [HTF.out.1] at e1
          rw [HTF.out.2] at e2
          rw [hlq] at hkl
          have HKE := Hd.mk hke
          clear hke
          go_wp2_with fail
          go_region_law (first | (refine step_app (m := 1) (B := wr.heap.size) (cs := #[Value.string ⟨(U.encs (fill q 32)).toArray⟩]) (base := w.heap.size) (n := d.length) (v := u3) (xs := cstr d) el_str rfl rfl rfl ((own_only HO.out (Only.of_below (S := fun _ => False) (Below.refl _ _)) (fun _ _ h => h)).drew.alloc _) rfl (heap_alloc_new wr.drew _) rfl (one1 rfl) (by decide) (by have := HDL.out; unfold maxLen; omega) (by have := HDL.out; omega) (by have := HB.out.size; simp; omega) ?_; intro g2 cap2 w2 hown2 hbel2))
          have HO2 := Hd.mk hown2
          have HB2 := Hd.mk hbel2
          clear hown2 hbel2
          go_wp2_with fail
          go_roundg (q.drop (fill q 32).length).length
          case rel =>
            refine ⟨d ++ [fill q 32], q.drop (fill q 32).length, rfl, by rw [HC.out, HST.out]; simp, fun x hx => HQ.out x (List.mem_of_mem_drop hx), rfl, by rw [bl_drop]; have := HBQ.out; omega, ?_, ?_, ?_⟩
            · have := List.length_pos_iff.2 HFL.out.2
              have h3 : 0 < q.length := by
                rcases q with _ | ⟨y, q⟩
                · simp at h1
                · simp
              have := HDL0.out
              rw [List.length_drop, List.length_append, List.length_singleton]; omega
            · have := HO2.out
              rw [cstr_append, List.length_append, List.length_singleton]; exact this
            · refine HB.out.trans ⟨HB2.out.os, HB2.out.tape, HB2.out.output, ?_, fun i hi => ?_⟩
              · have := HB2.out.size; simp at this; omega
              · rw [HB2.out.block i hi]; exact Below.heap_alloc wr.drew _ i (by have := HB.out.size; simp; omega)
          case measure =>
            have := List.length_pos_iff.2 HFL.out.2
            have h3 : 0 < q.length := by
              rcases q with _ | ⟨y, q⟩
              · simp at h1
              · simp
            have := HG.out
            rw [List.length_drop]; omega
    · have hi : ¬ ((32 : Int) < (bl q : Int)) := by omega
      have hcl := cutR_last h1
      cases q with
      | nil =>
        have HCL : Hd (cutR rs = d) := ⟨by rw [HC.out, hcl, if_pos rfl, List.append_nil]⟩
        have hbq0 : bl [] = 0 := rfl
        clear hcl hi h1 hlq hbq
        simp only [U.encs_nil]
        go_wp2_with fail
        go_ret
        rw [HCL.out]
        exact ⟨_, rfl, HB.out, HO.out⟩
      | cons y q =>
        have HCL : Hd (cutR rs = d ++ [y :: q]) := ⟨by rw [HC.out, hcl, if_neg (by simp)]⟩
        have hne : (U.encs (y :: q) == []) = false := by rw [beq_eq_false_iff_ne]; intro e; have := bl_pos (rs := y :: q) (by simp); unfold bl at this; rw [e] at this; simp at this
        generalize y :: q = q2 at *
        clear hcl
        go_wp2_with (at_builtin; refine append_lit el_str #[.string ⟨(U.encs q2).toArray⟩] HO.out rfl rfl rfl rfl rfl (one1 rfl) (by have := HDL.out; unfold maxLen; omega) (by have := HDL.out; omega) HB.out.size ?_; intro v1 w1 hown1 hbel1 _; have HO1 := Hd.mk hown1; have HB1 := Hd.mk hbel1; clear hown1 hbel1)
        go_ret
        rw [HCL.out]
        refine ⟨_, rfl, HB.out.trans HB1.out, ?_⟩
        have := HO1.out
        rw [cstr_append, List.length_append, List.length_singleton]
        exact this
end Go.Proofs.YtgokmldngnmmhaaDoor
/- lay. -/
namespace Go.Proofs.YtgokmldngnmmhaaDoor
open Go.RowKit
set_option maxRecDepth 100000
/-- A tree that comes of another one: of its blocks, or new ones. -/
structure Lay (w w' : World) (p : Nat) (t t' : RT) : Prop where
  at_ : AtR w' p t'
  nodup : t'.blocks.Nodup
  sub : ∀ i ∈ t'.blocks, i ∈ t.blocks ∨ w.heap.size ≤ i
  only : Only (fun i => i = p ∨ i ∈ t.blocks) w w'
  bal : t.Bal → t'.Bal
theorem ap_leaf {t : RT} {g : Nat} {c : List Int} (hn : t.blocks.Nodup) (hg : g ∉ t.blocks) (ne : Ne t.chunks) (hs : bl t.runes + bl c ≤ 1000000) : ApN (t.nodes ++ (RT.node g c .nil .nil).nodes) := by
  have h1 := bl_len t.runes
  have h2 := bl_len c
  have h3 := ne_len ne
  rw [RT.len_chunks, ← RT.runes_chunks] at h3
  refine ⟨?_, ⟨?_, ?_⟩⟩
  · simp only [RT.nodes_node, RT.nodes_nil, List.nil_append, List.map_append, List.map_cons, List.map_nil]
    exact List.nodup_append.2 ⟨hn, by simp, fun x hx y hy e => by simp at hy; subst hy; subst e; exact hg hx⟩
  · rw [List.flatMap_append, ← RT.runes_nodes]; simp; omega
  · simp; omega
theorem nodes_split {t : RT} {a b : List (List Int)} (h : t.chunks = a ++ b) : ∃ na nb, t.nodes = na ++ nb ∧ na.map Prod.snd = a ∧ nb.map Prod.snd = b := by
  obtain ⟨na, nb, h1, h2, h3⟩ := List.map_eq_append_iff.1 h
  exact ⟨na, nb, h1, h2, h3⟩
theorem flat_cb (na : List (Nat × List Int)) : bl (na.flatMap Prod.snd) = cb (na.map Prod.snd) := by rw [List.flatMap_def]; rfl
theorem addT_chunks {x t : RT} {k : Nat} {a b : List (List Int)} (hne : Ne t.chunks) (h : t.chunks = a ++ b) (hk : cb a = k) : (RT.addT x t k).chunks = a ++ x.chunks ++ b := by
  obtain ⟨na, nb, h1, h2, h3⟩ := nodes_split h
  unfold RT.chunks
  rw [RT.addT_nodes hne h1 (by rw [flat_cb, h2, hk])]
  simp [h2, h3]
theorem addT_nodup {x t : RT} {k : Nat} {a b : List (List Int)} (hne : Ne t.chunks) (h : t.chunks = a ++ b) (hk : cb a = k) (hd : ApN (t.nodes ++ x.nodes)) : (RT.addT x t k).blocks.Nodup := by
  obtain ⟨na, nb, h1, h2, h3⟩ := nodes_split h
  unfold RT.blocks
  rw [RT.addT_nodes hne h1 (by rw [flat_cb, h2, hk])]
  have := (perm_mid na x.nodes nb []).symm
  rw [h1] at hd
  exact (hd.perm (by simpa using this)).nodup
/-- One chunk more. -/
theorem Lay.more {w1 wr w2 w3 : World} {p g k : Nat} {t t' : RT} {c : List Int} {a b : List (List Int)} (h : Lay w1 wr p t t') (hb : Below wr.heap.size wr w2) (hg : wr.heap.size ≤ g) (hne : Ne t'.chunks) (hab : t'.chunks = a ++ b) (hk : cb a = k)
    (hd : ApN (t'.nodes ++ (RT.node g c .nil .nil).nodes)) (ht : AtT w3 (RT.addT (.node g c .nil .nil) t' k)) (ho : Only (addS t' (.node g c .nil .nil)) w2 w3) (_hp : p < w1.heap.size) :
    Lay w1 (w3.setCell ⟨p, 0, none⟩ (RT.addT (.node g c .nil .nil) t' k).ptr) p t (RT.addT (.node g c .nil .nil) t' k) := by
  have hpl := h.at_.blk.lt
  have hpn : ¬ addS t' (.node g c .nil .nil) p := fun e => e.elim h.at_.out (fun e => by simp at e; omega)
  have hp3 := (h.at_.blk.below hb hpl).only ho hpn
  have hout : p ∉ (RT.addT (.node g c .nil .nil) t' k).blocks := fun e => hpn (addT_mem e)
  refine ⟨⟨hp3.set_ 0 _, ht.only ((Only.refl (fun i => i = p) w3).setCell (p := ⟨p, 0, none⟩) (.inl rfl) _) (fun i hi e => hout (e ▸ hi)), hout⟩, addT_nodup hne hab hk hd, fun i hi => ?_, ?_, fun hbal => ?_⟩
  · rcases addT_mem hi with e | e
    · exact h.sub i e
    · simp at e; subst e; exact .inr (Nat.le_trans h.only.size hg)
  · refine only_set ((h.only.then_below hb).step ho ?_) (.inl rfl)
    intro i hi e
    rcases e with e | e
    · rcases h.sub i e with e | e
      · exact .inr e
      · omega
    · simp at e; have := h.only.size; omega
  · exact (RT.addT_bal (by simp [RT.Bal]) rfl (h.bal hbal) _).1
set_option maxHeartbeats 4000000 in
theorem lay_calls {p k : Nat} {t : RT} {rs : List Int} {a b : List (List Int)} {w : World} (h : AtR w p t) (hn : t.blocks.Nodup) (hne : Ne t.chunks) (hab : t.chunks = a ++ b) (hk : cb a = k) (hr : U.AllR rs) (hs : bl t.runes + bl rs ≤ 1000000) :
    Calls Tryd.prog 99 #[.pointer (some ⟨p, 0, none⟩), .int .i64 k, .string ⟨(U.encs rs).toArray⟩] w fun e w' => e = .returned (.tuple #[]) ∧ ∃ t', t'.chunks = a ++ cutR rs ++ b ∧ Lay w w' p t t' := by
  have HC := Hd.mk (cuts_calls hr (by omega) w)
  go_enter Tryd.func99, Tryd.ntmps99
  go_wp2_with (go_at_call 129; refine HC.out.mono ?_; rintro e w1 ⟨v, rfl, hb, hown⟩; obtain ⟨A, cp, rfl⟩ := own_form hown; have HB := Hd.mk hb; have HO := Hd.mk hown; clear hb hown)
  have HN := Hd.mk hne
  have HAB := Hd.mk hab
  have HK := Hd.mk hk
  have HS := Hd.mk hs
  have hL0 : Lay w1 w1 p t t := ⟨h.below HB.out, hn, fun i hi => .inl hi, Only.refl _ _, id⟩
  have HP : Hd (p < w1.heap.size ∧ (∀ i ∈ t.blocks, i < w.heap.size) ∧ p < w.heap.size ∧ U.AllR rs) := ⟨⟨by have := h.blk.lt; have := HB.out.size; omega, h.tree.lt, h.blk.lt, hr⟩⟩
  have hkb : k ≤ 1000000 := by have := cb_runes t; rw [hab, cb_append] at this; omega
  have HKB : Hd (cb a + bl rs ≤ 1000000) := ⟨by have := cb_runes t; rw [hab, cb_append] at this; omega⟩
  have HL0 := Hd.mk hL0
  clear h hn hne hab hk hr hs hL0
  go_loopw [1, 11] (fun kv i wr => ∃ (j : Nat) (t' : RT), j ≤ (cutR rs).length ∧ i = .int .i64 j ∧ kv = .int .i64 ((k + cb ((cutR rs).take j) : Nat) : Int) ∧ t'.chunks = a ++ (cutR rs).take j ++ b ∧ Lay w1 wr p t t') (fun _ i _ => (cutR rs).length - (intOf i).toNat)
  case atStart => exact ⟨0, t, Nat.zero_le _, rfl, rfl, by simpa using HAB.out, HL0.out⟩
  case round =>
    obtain ⟨j, t', hj, rfl, rfl, hch, hL⟩ := hrel
    by_cases hlt : j < (cutR rs).length
    · have hlt' : (j : Int) < ((cutR rs).length : Int) := by omega
      have hrow := own_only HO.out hL.only (fun i e hS => by
        have := (HO.out.lt i e).1
        rcases hS with rfl | hS
        · have := HP.out.2.2.1; omega
        · have := HP.out.2.1 i hS; omega)
      obtain ⟨ad, c', u, hv, hadl, hu, hcell⟩ := (Sl.of_own hrow).at_ hlt
      cases hv
      have hu2 : u = .string ⟨(U.encs (cutR rs)[j]).toArray⟩ := by
        unfold cstr at hu
        rw [List.getElem?_map, List.getElem?_eq_getElem hlt] at hu
        simpa using hu.symm
      subst hu2
      have HM := Hd.mk (cutR_mem (List.getElem_mem hlt))
      have HTK : Hd ((cutR rs).take (j + 1) = (cutR rs).take j ++ [(cutR rs)[j]]) := ⟨List.take_succ_eq_append_getElem hlt⟩
      have HRC : Hd (U.AllR (cutR rs)[j]) := ⟨fun x hx => HP.out.2.2.2 x (by rw [← cutR_flatten rs]; exact List.mem_flatten.2 ⟨_, List.getElem_mem hlt, hx⟩)⟩
      have hsum : cb ((cutR rs).take j) + bl (cutR rs)[j] ≤ bl rs := by
        have e : bl rs = cb (cutR rs) := by rw [cb, cutR_flatten]
        have e2 : cutR rs = (cutR rs).take (j + 1) ++ (cutR rs).drop (j + 1) := (List.take_append_drop _ _).symm
        rw [e]; conv => rhs; rw [e2]
        rw [HTK.out, cb_append, cb_append, cb_cons, cb_nil]; omega
      have hkb2 := HKB.out
      have hkk := HK.out
      have hnt : Ne t'.chunks := by
        rw [hch]
        have := HN.out; rw [HAB.out] at this
        exact (this.l.app (fun x hx => cutR_ne rs x (List.mem_of_mem_take hx))).app this.r
      have hsz : bl t'.runes + bl (cutR rs)[j] ≤ 1000000 := by
        have := cb_runes t'
        rw [hch, cb_append, cb_append] at this
        have h2 := cb_runes t
        rw [HAB.out, cb_append] at h2
        have := HS.out
        omega
      have HKJ : Hd (cb (a ++ (cutR rs).take j) = k + cb ((cutR rs).take j)) := ⟨by rw [cb_append]; omega⟩
      have HKJ2 : Hd (k + cb ((cutR rs).take (j + 1)) = k + cb ((cutR rs).take j) + bl (cutR rs)[j]) := ⟨by rw [HTK.out, cb_append, cb_cons, cb_nil]; omega⟩
      have HL := Hd.mk hL
      have HCH := Hd.mk hch
      have HNT := Hd.mk hnt
      have HSZ := Hd.mk hsz
      obtain ⟨kj, hkj⟩ : ∃ x, x = k + cb ((cutR rs).take j) := ⟨_, rfl⟩
      rw [← hkj] at HKJ HKJ2
      have hkjb : kj ≤ 1000000 := by omega
      have hcb : bl (cutR rs)[j] ≤ 32 := HM.out.2
      rw [← hkj]
      have HLC : Hd ((U.encs (cutR rs)[j]).length = bl (cutR rs)[j]) := ⟨rfl⟩
      have hlc : (U.encs (cutR rs)[j]).length ≤ 32 := HM.out.2
      have hjb : j ≤ 1000000 := by have h1 := ne_len (cutR_ne rs); have h2 := bl_len rs; rw [cutR_flatten] at h1; omega
      generalize (cutR rs)[j] = c at *
      have c0 := hL.at_.blk.cell 0
      have cf := hL.at_.blk.frozen
      have cl := hL.at_.blk.lt
      simp only [List.getElem?_toArray, List.getElem?_cons_zero, RT.ptr] at c0
      clear hL hch hnt hsz hrow hu hsum hkb2 hkk hkj hkb hj
      go_wp2_with fail
      go_region_with (first
        | (go_at_call 131; refine (leaf_calls (rs := c) HRC.out (by omega) _).mono ?_; rintro e w2 ⟨g, he, hgs, hat, hb2'⟩; have hb2 := undrew hb2'; clear hb2'; rw [RT.ptr_node] at he; obtain rfl := he; have hp2 := HL.out.at_.blk.below hb2 HL.out.at_.blk.lt; have c0 := hp2.cell 0; have cf := hp2.frozen; have cl := hp2.lt; simp only [List.getElem?_toArray, List.getElem?_cons_zero, RT.ptr] at c0; have HB2 := Hd.mk hb2; have HGS := Hd.mk hgs; have HAT := Hd.mk hat; have HAPN := Hd.mk (ap_leaf HL.out.nodup (fun e => by have := HL.out.at_.tree.lt g e; simp at hgs; omega) HNT.out HSZ.out); clear hp2 hb2 hgs hat)
        | (go_at_call 130; refine (add_calls (x := .node g c .nil .nil) (t := t') (k := kj) HAT.out (HL.out.at_.tree.below HB2.out) HNT.out HAPN.out (by obtain ⟨na, nb, e1, e2, e3⟩ := nodes_split HCH.out; exact ⟨na, nb, e1, by rw [flat_cb, e2]; exact HKJ.out⟩)).mono ?_; rintro e w3 ⟨he, ht3, ho3⟩; rw [RT.ptr] at he; obtain rfl := he; have HT3 := Hd.mk ht3; have HO3 := Hd.mk ho3; have hp3 := (HL.out.at_.blk.below HB2.out HL.out.at_.blk.lt).only ho3 (fun e => e.elim HL.out.at_.out (fun e => by have := HL.out.at_.blk.lt; have := HGS.out; simp at e this; omega)); have c0 := hp3.cell 0; have cf := hp3.frozen; have cl := hp3.lt; simp only [List.getElem?_toArray, List.getElem?_cons_zero, RT.ptr] at c0; clear hp3 ht3 ho3))
      all_goals
        have hmore := HL.out.more HB2.out (HGS.out : wr.heap.size ≤ g) HNT.out HCH.out HKJ.out HAPN.out HT3.out HO3.out HP.out.1
        have hch2 := addT_chunks (x := .node g c .nil .nil) HNT.out HCH.out HKJ.out
        have HCH2 := Hd.mk hch2
        rw [RT.ptr] at hmore
        have HMORE := Hd.mk hmore
        clear hmore hch2 c0 cf cl
        generalize (w3.setCell ⟨p, 0, none⟩ (.pointer (RT.addT (.node g c .nil .nil) t' kj).pa)) = wz at HMORE ⊢
        go_wp2_with fail
        refine ⟨⟨j + 1, RT.addT (.node g c .nil .nil) t' kj, by omega, by go_num, by rw [HKJ2.out] <;> congr 1, ?_, HMORE.out⟩, by simp only [intOf]; omega⟩
        rw [HCH2.out, HTK.out]
        simp
    · obtain rfl : j = (cutR rs).length := by omega
      have HL := Hd.mk hL
      have HCH := Hd.mk hch
      clear hL hch
      go_wp2_with fail
      go_end0
      refine ⟨rfl, t', ?_, ⟨HL.out.at_, HL.out.nodup, fun i hi => (HL.out.sub i hi).imp id (fun h => Nat.le_trans HB.out.size h), (Only.of_below HB.out).trans HL.out.only, HL.out.bal⟩⟩
      have := HCH.out
      rwa [List.take_length] at this
end Go.Proofs.YtgokmldngnmmhaaDoor
/- New. -/
namespace Go.Proofs.YtgokmldngnmmhaaDoor
open Go.RowKit
set_option maxRecDepth 100000
def errno (e : Int) : Value := .iface 23 (.int .i64 e)
/-- What New hands back: a document of the text; or an error. -/
def NewPost (rs : List Int) (rest : U.Bs) (w : World) (e : Ending) (w' : World) : Prop :=
  Below w.heap.size w w' ∧ (rest ≠ [] → ∃ g, e = .returned (.tuple #[.pointer none, atV g]) ∧ AtBlk w' g 3 (bl rs)) ∧
    (rest = [] → 8000 < bl rs → e = .returned (.tuple #[.pointer none, errno 12])) ∧
    (rest = [] → bl rs ≤ 8000 → ∃ p t, e = .returned (.tuple #[.pointer (some ⟨p, 0, none⟩), .nilIface]) ∧ AtR w' p t ∧ Good t ∧ t.runes = rs ∧ w.heap.size ≤ p ∧ ∀ i ∈ t.blocks, w.heap.size ≤ i)
set_option maxHeartbeats 4000000 in
theorem new_calls {s : U.Bs} {rs : List Int} {rest : U.Bs} (h : U.Sp s rs rest) (w : World) (hs : s.length ≤ 1000000) :
    Calls Tryd.prog 40 #[.string ⟨s.toArray⟩] w (NewPost rs rest w) := by
  have HC := Hd.mk (count_calls h w (by omega))
  have HA : Hd (U.AllR rs) := ⟨h.all⟩
  by_cases hr : rest = []
  · subst hr
    obtain rfl : s = U.encs rs := by have := h.eq; simpa using this
    have hbl : (U.encs rs).length = bl rs := rfl
    by_cases hb : bl rs ≤ 8000
    · have hi : ¬ ((8000 : Int) < (bl rs : Int)) := by omega
      have HB := Hd.mk hb
      clear h
      go_enter Tryd.func40, Tryd.ntmps40
      go_wp2_with (first
        | (go_at_call 17; refine HC.out.mono ?_; rintro e w1 ⟨hb1, he, -⟩; obtain rfl := he rfl; have HB1 := Hd.mk hb1; clear hb1 he)
        | (go_at_call 99; refine (lay_calls (p := w1.heap.size + 1) (k := 0) (t := .nil) (rs := rs) (a := []) (b := []) ⟨by have := Blk.new (w1.alloc (.cells #[Value.int .i64 (cnt rs).b, .int .i64 (cnt rs).h, .int .i64 (cnt rs).r, .int .i64 (cnt rs).l] 36)) 169 #[RT.ptr .nil]; rw [World.size_alloc] at this; exact this, trivial, by simp⟩ (by simp) (by intro c hc; simp at hc) rfl rfl HA.out (by have := HB.out; simp; omega)).mono ?_; rintro e w2 ⟨rfl, t, hch, hL⟩; have HCH := Hd.mk hch; have HL := Hd.mk hL; clear hch hL))
      go_ret2
      refine ⟨?_, fun h => absurd rfl h, fun _ h => absurd h (by have := HB.out; omega), fun _ _ => ⟨w1.heap.size + 1, t, rfl, HL.out.at_, ?_, ?_, by have := HB1.out.size; omega, fun i hi => ?_⟩⟩
      · refine (Only.trans (S := fun i => i = w1.heap.size + 1 ∨ i ∈ RT.nil.blocks) ?_ HL.out.only).below (Nat.le_refl _) (fun k hk e => ?_)
        · exact Only.of_below (((HB1.out.alloc HB1.out.size _)).alloc (by simp; have := HB1.out.size; omega) _)
        · have := HB1.out.size
          rcases e with e | e
          · omega
          · simp at e
      · have hc : t.chunks = cutR rs := by simpa using HCH.out
        have hrr : t.runes = rs := by rw [RT.runes_chunks, hc, cutR_flatten]
        exact ⟨HL.out.nodup, by rw [hc]; exact cutR_ne rs, fun c hc' => (cutR_mem (by rw [← hc]; exact hc')).2, by rw [hrr]; exact HA.out, HL.out.bal trivial, by rw [hrr]; exact HB.out⟩
      · rw [RT.runes_chunks, HCH.out]; simp [cutR_flatten]
      · rcases HL.out.sub i hi with h | h
        · simp at h
        · have := HB1.out.size; simp at h; omega
    · have hi : (8000 : Int) < (bl rs : Int) := by omega
      have HB := Hd.mk hb
      clear h
      go_enter Tryd.func40, Tryd.ntmps40
      go_wp2_with (go_at_call 17; refine HC.out.mono ?_; rintro e w1 ⟨hb1, he, -⟩; obtain rfl := he rfl; have HB1 := Hd.mk hb1; clear hb1 he)
      go_ret2
      exact ⟨ex_alloc HB1.out _, fun h => absurd rfl h, fun _ _ => rfl, fun _ h => absurd h (by have := HB.out; omega)⟩
  · clear h
    go_enter Tryd.func40, Tryd.ntmps40
    go_wp2_with (go_at_call 17; refine HC.out.mono ?_; rintro e w1 ⟨hb1, -, he⟩; obtain ⟨g, rfl, hat⟩ := he hr; have HB1 := Hd.mk hb1; have HAT := Hd.mk hat; clear hb1 he hat)
    go_ret2
    exact ⟨ex_alloc HB1.out _, fun _ => ⟨g, rfl, by have := HAT.out.below (ex_alloc (Below.refl _ _) (.cells #[Value.int .i64 Cn.zero.b, .int .i64 Cn.zero.h, .int .i64 Cn.zero.r, .int .i64 Cn.zero.l] 36)); rw [U.off_full] at this; exact this⟩, fun h => absurd h hr, fun h => absurd h hr⟩
end Go.Proofs.YtgokmldngnmmhaaDoor
