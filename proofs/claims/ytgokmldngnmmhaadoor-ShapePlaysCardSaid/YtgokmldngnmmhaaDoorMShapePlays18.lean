/- ref.Halves, strings.Count of one byte, ref.Count. -/
import Derived.Test.YtgokmldngnmmhaaDoorMShapePlays15
import Derived.Test.YtgokmldngnmmhaaDoorMShapePlays8
import Derived.Lib.Bytealg
namespace Go.Proofs.YtgokmldngnmmhaaDoor
open Go.RowKit
set_option maxRecDepth 100000
theorem hoff_bd (rs : List Int) (k : Nat) : U.hoff rs k ≤ 2 * k := by
  have := U.hvs_len_le (rs.take k)
  rw [List.length_take] at this
  unfold U.hoff; omega
set_option maxHeartbeats 2000000 in
theorem rhalves_calls {rs : List Int} {v : Value} {w : World} (hall : U.AllR rs) (hsl : Sl w 1 v rs.length (i32s rs)) (hn : rs.length ≤ 35184372087808) :
    Calls Tryd.prog 22 #[v] w fun e w' => (∃ v', e = .returned v' ∧ Sl w' 1 v' (U.hvs rs).length (u16s (U.hvs rs))) ∧ Below w.heap.size w w' := by
  have HSL := Hd.mk hsl
  have HA := Hd.mk hall
  obtain ⟨A, c, rfl, -⟩ := hsl
  clear hall
  go_enter Tryd.func22, Tryd.ntmps22
  go_wp2_with fail
  go_loopw [3, 9] (fun b i wr => ∃ k : Nat, k ≤ rs.length ∧ i = .int .i64 k ∧ wr.ownsRow w.heap.size 128 1 b (U.hoff rs k) (u16s (U.hvs (rs.take k))) ∧ Below w.heap.size w wr) (fun _ i _ => rs.length - (intOf i).toNat)
  case atStart => exact ⟨0, by omega, rfl, World.ownsRow_nil _ _ _ _, Below.refl _ _⟩
  case round =>
    obtain ⟨k, hk, rfl, hown, hbel⟩ := hrel
    have hb0 := hbel.size
    have HB := Hd.mk hbel
    by_cases hkn : k < rs.length
    · obtain ⟨ad, c', u, hv, _, hu, hc⟩ := (HSL.out.below hbel).at_ hkn
      cases hv
      have hu2 : u = .int .i32 rs[k] := by
        unfold i32s at hu
        rw [List.getElem?_map, List.getElem?_eq_getElem hkn] at hu
        simpa using hu.symm
      subst hu2
      have hrr := U.right_iff.1 (HA.out _ (List.getElem_mem hkn))
      have HHO := Hd.mk (U.hoff_succ hkn)
      have HTK : Hd (U.hvs (rs.take (k + 1)) = U.hvs (rs.take k) ++ U.hv rs[k]) := ⟨by rw [List.take_succ_eq_append_getElem hkn, U.hvs_append, U.hvs_cons, U.hvs_nil, List.append_nil]⟩
      have hol := hoff_bd rs k
      generalize rs[k] = r at hrr hc HHO HTK
      have hr0 : 0 ≤ r := by omega
      have hr1 : r ≤ 1114111 := by omega
      have HOW := Hd.mk hown
      clear hrr hown hbel hu
      by_cases hsm : r < 65536
      · have e1 : U.hv r = [r] := by unfold U.hv; rw [if_pos hsm]
        have e2 : U.hwid r = 1 := by unfold U.hwid; rw [if_pos hsm]
        have HE := Hd.mk (And.intro e1 e2)
        clear e1 e2
        go_wp2_with (at_builtin; refine append_lit el_u16 #[.int .u16 r] HOW.out rfl rfl rfl rfl rfl (one1 rfl) (by unfold maxLen; omega) (by omega) hb0 ?_; intro v1 w2 hown1 hbel1 _)
        refine ⟨⟨k + 1, by omega, by go_num, ?_, HB.out.trans hbel1⟩, ?_⟩
        · rw [HHO.out, HTK.out, HE.out.1, HE.out.2, u16s_append]; exact hown1
        · simp only [intOf]; omega
      · have e1 : U.hv r = [55296 + (r - 65536) / 1024, 56320 + (r - 65536) % 1024] := by unfold U.hv; rw [if_neg hsm]
        have e2 : U.hwid r = 2 := by unfold U.hwid; rw [if_neg hsm]
        have HE := Hd.mk (And.intro e1 e2)
        clear e1 e2
        go_wp2_with (at_builtin; refine append_lit el_u16 #[.int .u16 (55296 + (r - 65536) / 1024), .int .u16 (56320 + (r - 65536) % 1024)] HOW.out rfl rfl rfl rfl rfl (one2 rfl rfl) (by unfold maxLen; omega) (by omega) hb0 ?_; intro v1 w2 hown1 hbel1 _)
        refine ⟨⟨k + 1, by omega, by go_num, ?_, HB.out.trans hbel1⟩, ?_⟩
        · rw [HHO.out, HTK.out, HE.out.1, HE.out.2, u16s_append]; exact hown1
        · simp only [intOf]; omega
    · obtain rfl : k = rs.length := by omega
      rw [List.take_length, U.hoff_full] at hown
      have hsl := Sl.of_own hown
      have HS2 := Hd.mk hsl
      clear hown hbel hsl
      go_wp2_with fail
      go_ret
      exact ⟨⟨_, rfl, HS2.out⟩, HB.out⟩
set_option maxHeartbeats 1000000 in
theorem strCount_calls (s : ByteArray) (c : UInt8) (w : World) :
    Calls Tryd.prog 73 #[.string s, .string ⟨#[c]⟩] w fun e w' => e = .returned (.int .i64 (Lib.countByte s.data.toList c)) ∧ w' = w := by
  go_enter Tryd.func73, Tryd.ntmps73
  go_wp2
  rw [run_callFunc_extern Tryd.func119 (by kernel_rfl) (by kernel_rfl) (by kernel_rfl) (e := Extern.BytealgCount.count) (by kernel_rfl), Lib.run_countString]
  simp only [Result.andThen]
  rw [Oper.upon_value]
  go_wp2
  go_ret
  exact ⟨rfl, rfl⟩
theorem by8_ne {x : Int} (h0 : 0 ≤ x) (h1 : x < 256) (hx : x ≠ 10) : (U.by8 x == 10) = false := by
  rw [beq_eq_false_iff_ne]
  intro e
  have t := U.by8_toNat h0 h1
  rw [e] at t
  have h10 : (((10 : UInt8).toNat : Nat) : Int) = 10 := rfl
  omega
theorem enc_nl {r : Int} (h : U.right r = true) : (U.enc r).count 10 = if r = 10 then 1 else 0 := by
  have hr := U.right_iff.1 h
  unfold U.enc
  by_cases c1 : r < 128
  · rw [if_pos c1]
    by_cases e : r = 10
    · subst e; rfl
    · rw [if_neg e, List.count_cons, by8_ne (by omega) (by omega) e]; rfl
  · rw [if_neg c1, if_neg (show ¬ r = 10 by omega)]
    by_cases c2 : r < 2048
    · rw [if_pos c2, List.count_cons, List.count_cons, by8_ne (by omega) (by omega) (by omega), by8_ne (by omega) (by omega) (by omega)]; rfl
    · rw [if_neg c2]
      by_cases c3 : r < 65536
      · rw [if_pos c3, List.count_cons, List.count_cons, List.count_cons, by8_ne (by omega) (by omega) (by omega), by8_ne (by omega) (by omega) (by omega), by8_ne (by omega) (by omega) (by omega)]; rfl
      · rw [if_neg c3, List.count_cons, List.count_cons, List.count_cons, List.count_cons, by8_ne (by omega) (by omega) (by omega), by8_ne (by omega) (by omega) (by omega), by8_ne (by omega) (by omega) (by omega), by8_ne (by omega) (by omega) (by omega)]; rfl
/-- What a text counts: bytes, halves, runes, line ends. -/
theorem cnt_full {rs : List Int} (h : U.AllR rs) : cnt rs = ⟨(U.encs rs).length, (U.hvs rs).length, rs.length, ((U.encs rs).count 10 : Nat)⟩ := by
  suffices hs : ∀ n (rs : List Int), rs.length = n → U.AllR rs → cnt rs = ⟨(U.encs rs).length, (U.hvs rs).length, rs.length, ((U.encs rs).count 10 : Nat)⟩ from hs _ rs rfl h
  clear h rs
  intro n
  induction n with
  | zero => intro rs hl _; obtain rfl := List.eq_nil_of_length_eq_zero hl; rfl
  | succ n ih =>
    intro rs hl ha
    rcases List.eq_nil_or_concat rs with rfl | ⟨a, r, rfl⟩
    · simp at hl
    · rw [List.concat_eq_append] at *
      have hr : U.right r = true := ha r (by simp)
      have ha' : U.AllR a := fun x hx => ha x (by simp [hx])
      rw [cnt_snoc, ih a (by simpa using hl) ha', U.encs_append, U.hvs_append, U.encs_cons, U.encs_nil, U.hvs_cons, U.hvs_nil, List.append_nil, List.append_nil, List.count_append, enc_nl hr]
      simp only [Cn.add, oneC, List.length_append, U.hv_length, U.enc_length, List.length_cons, List.length_nil]
      refine Cn.mk.injEq .. |>.mpr ⟨by omega, ?_, by omega, ?_⟩
      · unfold U.hwid
        split <;> split <;> omega
      · split <;> omega
def RCountPost (rs : List Int) (rest : U.Bs) (w : World) (e : Ending) (w' : World) : Prop :=
  Below w.heap.size w w' ∧ (rest = [] → e = .returned (.tuple #[(cnt rs).v, fltV 0 (-1)])) ∧
    (rest ≠ [] → e = .returned (.tuple #[Cn.zero.v, fltV 3 (U.off rs rs.length)]))
/-- The stores of counts and of a fault into the results. -/
theorem cf_set {w : World} {g : Nat} {x y : Cn} {a b p q : Value} (h0 : CnBlk w g x) (h1 : Blk w (g + 1) 25 #[a, b]) {W : World}
    (hW : W = (((((w.setCell ⟨g, 0, none⟩ (.int .i64 y.b)).setCell ⟨g, 1, none⟩ (.int .i64 y.h)).setCell ⟨g, 2, none⟩ (.int .i64 y.r)).setCell ⟨g, 3, none⟩ (.int .i64 y.l)).setCell ⟨g + 1, 0, none⟩ p).setCell ⟨g + 1, 1, none⟩ q) :
    CnBlk W g y ∧ Blk W (g + 1) 25 #[p, q] ∧ (∀ B, B ≤ g → Below B w W) ∧ W.heap.size = w.heap.size := by
  subst hW
  refine h0.set4 (F := fun V => CnBlk ((V.setCell ⟨g + 1, 0, none⟩ p).setCell ⟨g + 1, 1, none⟩ q) g y ∧ Blk ((V.setCell ⟨g + 1, 0, none⟩ p).setCell ⟨g + 1, 1, none⟩ q) (g + 1) 25 #[p, q] ∧ (∀ B, B ≤ g → Below B w ((V.setCell ⟨g + 1, 0, none⟩ p).setCell ⟨g + 1, 1, none⟩ q)) ∧ ((V.setCell ⟨g + 1, 0, none⟩ p).setCell ⟨g + 1, 1, none⟩ q).heap.size = w.heap.size) ?_
  intro V hV hB hs hf
  have h1' : Blk V (g + 1) 25 #[a, b] := (hf (g + 1) (by omega)).trans h1
  refine ⟨?_, (h1'.set_ 0 p).set_ 1 q, fun B hb => ((hB B hb).setCell (p := ⟨g + 1, 0, none⟩) (show B ≤ g + 1 by omega) _).setCell (p := ⟨g + 1, 1, none⟩) (show B ≤ g + 1 by omega) _, by simp [hs]⟩
  exact (Below.heap_setCell _ ⟨g + 1, 1, none⟩ q g (by simp)).trans ((Below.heap_setCell _ ⟨g + 1, 0, none⟩ p g (by simp)).trans hV)
theorem cf_last {F : World → Prop} {w : World} {g : Nat} {x y : Cn} {a b p q : Value} (h0 : CnBlk w g x) (h1 : Blk w (g + 1) 25 #[a, b])
    (k : ∀ W, CnBlk W g y → Blk W (g + 1) 25 #[p, q] → (∀ B, B ≤ g → Below B w W) → F W) :
    F ((((((w.setCell ⟨g, 0, none⟩ (.int .i64 y.b)).setCell ⟨g, 1, none⟩ (.int .i64 y.h)).setCell ⟨g, 2, none⟩ (.int .i64 y.r)).setCell ⟨g, 3, none⟩ (.int .i64 y.l)).setCell ⟨g + 1, 0, none⟩ p).setCell ⟨g + 1, 1, none⟩ q) := by
  obtain ⟨x1, x2, x3, _⟩ := cf_set (y := y) (p := p) (q := q) h0 h1 rfl
  exact k _ x1 x2 x3
set_option maxHeartbeats 32000000 in
theorem rcount_calls {s : U.Bs} {rs : List Int} {rest : U.Bs} (h : U.Sp s rs rest) (w : World) (hs : s.length ≤ 35184372087808) :
    Calls Tryd.prog 18 #[.string ⟨s.toArray⟩] w (RCountPost rs rest w) := by
  have H := Hd.mk h
  have hlen := h.length
  have hll := U.len_le_off rs
  by_cases hr : rest = []
  · have hrl : rs.length ≤ 35184372087808 := by omega
    have HF : Hd ((cnt rs).v = .agg #[.int .i64 s.length, .int .i64 (U.hvs rs).length, .int .i64 rs.length, .int .i64 (Lib.countByte s 10 : Nat)]) := ⟨by
      rw [cnt_full h.all]
      have : s = U.encs rs := by have := h.eq; rw [hr, List.append_nil] at this; exact this
      rw [this]; rfl⟩
    have hcb : (Lib.countByte s 10 : Nat) ≤ s.length := List.count_le_length
    have hhl := U.hvs_len_le rs
    have HR := Hd.mk hr
    clear h hlen hll
    go_enter Tryd.func18, Tryd.ntmps18
    go_wp2_with fail
    refine (rrunes_calls H.out _ hs).mono ?_
    rintro e w1 ⟨hb1, hok, _⟩
    obtain ⟨v, rfl, hsl⟩ := hok HR.out
    have HS := Hd.mk hsl
    have HB1 := Hd.mk hb1
    obtain ⟨A, c, rfl, -⟩ := hsl
    have hR0 : CnBlk w1 w.heap.size Cn.zero := by
      have h0 : CnBlk ((w.alloc (.cells #[.int .i64 0, .int .i64 0, .int .i64 0, .int .i64 0] 36)).alloc (.cells #[.int .i64 0, .int .i64 0] 25)) w.heap.size Cn.zero := (Blk.new _ _ _).alloc _
      exact h0.below hb1 (by simp only [World.size_alloc]; omega)
    have hR1 : Blk w1 (w.heap.size + 1) 25 #[.int .i64 0, .int .i64 0] := by
      have h0 := Blk.new (w.alloc (.cells #[.int .i64 0, .int .i64 0, .int .i64 0, .int .i64 0] 36)) 25 #[.int .i64 0, .int .i64 0]
      rw [World.size_alloc] at h0
      exact h0.below hb1 (by simp only [World.size_alloc]; omega)
    have HR0 := Hd.mk hR0
    have HR1 := Hd.mk hR1
    obtain ⟨z0, z1, z2, z3⟩ := hR0.cells
    have zf := hR0.frozen
    have y0 := hR1.cell 0
    have y1 := hR1.cell 1
    have yf := hR1.frozen
    have l0 := hR0.lt
    have l1 := hR1.lt
    simp only [List.getElem?_toArray, List.getElem?_cons_zero, List.getElem?_cons_succ] at y0 y1
    clear hR0 hR1
    clear hok hr hb1
    unfold fltV
    go_wp2_with fail
    have HSd : Hd (Sl ((w1.alloc (.cells #[.int .i64 0, .int .i64 (-1)] 25)).drew) 1 (.slice A rs.length c) rs.length (i32s rs)) := ⟨HS.out.below (ex_drew (ex_alloc (Below.refl _ _) _))⟩
    have HRd : Hd (CnBlk ((w1.alloc (.cells #[.int .i64 0, .int .i64 (-1)] 25)).drew) w.heap.size Cn.zero ∧ Blk ((w1.alloc (.cells #[.int .i64 0, .int .i64 (-1)] 25)).drew) (w.heap.size + 1) 25 #[.int .i64 0, .int .i64 0] ∧ Blk ((w1.alloc (.cells #[.int .i64 0, .int .i64 (-1)] 25)).drew) w1.heap.size 25 #[.int .i64 0, .int .i64 (-1)]) :=
      ⟨(Below.heap_alloc w1 _ _ l0).trans HR0.out, HR1.out.alloc _, Blk.new _ _ _⟩
    have HBd : Hd (Below w.heap.size w ((w1.alloc (.cells #[.int .i64 0, .int .i64 (-1)] 25)).drew)) := ⟨ex_drew (ex_alloc ((ex_alloc (ex_alloc (Below.refl _ _) _) _).trans (HB1.out.mono (by simp only [World.size_alloc]; omega))) _)⟩
    go_region_with (first | (go_at_call 22; refine (rhalves_calls H.out.all HSd.out hrl).mono ?_; rintro e w2 ⟨⟨v2, rfl, hs2⟩, hb2⟩; have HB2 := Hd.mk hb2; obtain ⟨A2, c2, rfl, -⟩ := hs2; have r0 := HRd.out.1.below hb2 HRd.out.1.lt; have r1 := HRd.out.2.1.below hb2 HRd.out.2.1.lt; have r2 := HRd.out.2.2.below hb2 HRd.out.2.2.lt; obtain ⟨u0, u1, u2, u3⟩ := r0.cells; have uf := r0.frozen; have v0 := r1.cell 0; have v1 := r1.cell 1; have vf := r1.frozen; have t0 := r2.cell 0; have t1 := r2.cell 1; simp only [List.getElem?_toArray, List.getElem?_cons_zero, List.getElem?_cons_succ] at v0 v1 t0 t1; have HU0 := Hd.mk r0; have HU1 := Hd.mk r1; clear hb2 r0 r1 r2) | (go_at_call 73; refine (strCount_calls _ _ _).mono ?_; rintro e w3 ⟨rfl, rfl⟩))
    all_goals
      go_wp2_with fail
      refine cf_last (F := fun W => bodyPost _ _ _ Exit.ret _ W) (y := ⟨s.length, (U.hvs rs).length, rs.length, (Lib.countByte s 10 : Nat)⟩) HU0.out HU1.out ?_
      intro W x1 x2 x3
      obtain ⟨g0, g1, g2, g3⟩ := x1.cells
      have g4 := x2.cell 0
      have g5 := x2.cell 1
      simp only [List.getElem?_toArray, List.getElem?_cons_zero, List.getElem?_cons_succ] at g4 g5
      refine bodyPost_ret (v := .tuple #[(cnt rs).v, .agg #[.int .i64 0, .int .i64 (-1)]]) (by rw [HF.out]; simp [results, Tryd.results18, go_sem, g0, g1, g2, g3, g4, g5]) rfl ?_
      refine ⟨?_, fun _ => rfl, fun h => absurd HR.out h⟩
      exact (bstep HBd.out HB2.out).trans (x3 _ (Nat.le_refl _))
  · clear hlen hll
    go_enter Tryd.func18, Tryd.ntmps18
    go_wp2_with fail
    refine (rrunes_calls H.out _ hs).mono ?_
    rintro e w1 ⟨hb1, _, hbad⟩
    obtain rfl := hbad hr
    have HB1 := Hd.mk hb1
    have HR := Hd.mk hr
    have hR0 : CnBlk w1 w.heap.size Cn.zero := by
      have h0 : CnBlk ((w.alloc (.cells #[.int .i64 0, .int .i64 0, .int .i64 0, .int .i64 0] 36)).alloc (.cells #[.int .i64 0, .int .i64 0] 25)) w.heap.size Cn.zero := (Blk.new _ _ _).alloc _
      exact h0.below hb1 (by simp only [World.size_alloc]; omega)
    have hR1 : Blk w1 (w.heap.size + 1) 25 #[.int .i64 0, .int .i64 0] := by
      have h0 := Blk.new (w.alloc (.cells #[.int .i64 0, .int .i64 0, .int .i64 0, .int .i64 0] 36)) 25 #[.int .i64 0, .int .i64 0]
      rw [World.size_alloc] at h0
      exact h0.below hb1 (by simp only [World.size_alloc]; omega)
    have HR0 := Hd.mk hR0
    have HR1 := Hd.mk hR1
    obtain ⟨z0, z1, z2, z3⟩ := hR0.cells
    have zf := hR0.frozen
    have y0 := hR1.cell 0
    have y1 := hR1.cell 1
    have yf := hR1.frozen
    have l0 := hR0.lt
    have l1 := hR1.lt
    simp only [List.getElem?_toArray, List.getElem?_cons_zero, List.getElem?_cons_succ] at y0 y1
    clear hR0 hR1
    clear hbad hr hb1
    unfold fltV
    go_wp2_with fail
    go_region
    all_goals
      go_wp2_with fail
      obtain ⟨W, hW⟩ : ∃ W, W = (((((w1.setCell ⟨w.heap.size, 0, none⟩ (.int .i64 0)).setCell ⟨w.heap.size, 1, none⟩ (.int .i64 0)).setCell ⟨w.heap.size, 2, none⟩ (.int .i64 0)).setCell ⟨w.heap.size, 3, none⟩ (.int .i64 0)).setCell ⟨w.heap.size + 1, 0, none⟩ (.int .i64 3)).setCell ⟨w.heap.size + 1, 1, none⟩ (.int .i64 (U.off rs rs.length)) := ⟨_, rfl⟩
      obtain ⟨x1, x2, x3, x4⟩ := cf_set (y := Cn.zero) HR0.out HR1.out hW
      rw [← hW]
      have x5 := CnBlk.cells (show CnBlk ((W.alloc (.cells #[.int .i64 3, .int .i64 (U.off rs rs.length)] 25)).drew) w.heap.size Cn.zero from (Below.heap_alloc W _ _ x1.lt).trans x1)
      have x6 : Blk ((W.alloc (.cells #[.int .i64 3, .int .i64 (U.off rs rs.length)] 25)).drew) (w.heap.size + 1) 25 #[.int .i64 3, .int .i64 (U.off rs rs.length)] := x2.alloc _
      obtain ⟨g0, g1, g2, g3⟩ := x5
      have g4 := x6.cell 0
      have g5 := x6.cell 1
      simp only [List.getElem?_toArray, List.getElem?_cons_zero, List.getElem?_cons_succ] at g4 g5
      refine bodyPost_ret (v := .tuple #[Cn.zero.v, .agg #[.int .i64 3, .int .i64 (U.off rs rs.length)]]) (by simp [results, Tryd.results18, go_sem, g0, g1, g2, g3, g4, g5]) rfl ?_
      exact ⟨ex_drew (ex_alloc ((ex_alloc (ex_alloc (Below.refl _ _) _) _).trans ((HB1.out.mono (by simp only [World.size_alloc]; omega)).trans (x3 _ (Nat.le_refl _)))) _), fun h => absurd h HR.out, fun _ => rfl⟩
end Go.Proofs.YtgokmldngnmmhaaDoor
