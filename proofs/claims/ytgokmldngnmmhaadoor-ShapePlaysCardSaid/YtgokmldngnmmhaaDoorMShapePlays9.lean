/- utf.Walk's function, as an iterator. -/
import Derived.Test.YtgokmldngnmmhaaDoorMShapePlays8
import Derived.Test.YtgokmldngnmmhaaDoorMShapePlays1
import Derived.RangeFuncNested
import Derived.RangeFuncBound
import Derived.RangeFuncCalls
import Derived.RangeFuncLeaves
import Derived.Shelf.Abstract
import Derived.Shelf.RegionOpen
import Derived.WalkKit
import Derived.OwnWalkIn
import Derived.TacticsInMore
import Derived.LoopNIn
import Derived.LoopIn
namespace Go.Proofs.YtgokmldngnmmhaaDoor
open Go.RowKit Go.Shelf
set_option maxRecDepth 100000
attribute [local go_sem] Oper.semAt_some
/-- What a round keeps: every variable but one. -/
def KpB (b : Nat) (A A' : World) : Prop := A.heap.size ≤ A'.heap.size ∧ ∀ k cs t, A.heap[k]? = some (.cells cs t (0, 0)) → k ≠ b → A'.heap[k]? = some (.cells cs t (0, 0))
theorem cn_set {w : World} {g : Nat} {x y : Cn} (h : CnBlk w g x) : CnBlk ((((w.setCell ⟨g, 0, none⟩ (.int .i64 y.b)).setCell ⟨g, 1, none⟩ (.int .i64 y.h)).setCell ⟨g, 2, none⟩ (.int .i64 y.r)).setCell ⟨g, 3, none⟩ (.int .i64 y.l)) g y ∧
    (∀ B, B ≤ g → Below B w ((((w.setCell ⟨g, 0, none⟩ (.int .i64 y.b)).setCell ⟨g, 1, none⟩ (.int .i64 y.h)).setCell ⟨g, 2, none⟩ (.int .i64 y.r)).setCell ⟨g, 3, none⟩ (.int .i64 y.l))) ∧
    ∀ g', g' ≠ g → ((((w.setCell ⟨g, 0, none⟩ (.int .i64 y.b)).setCell ⟨g, 1, none⟩ (.int .i64 y.h)).setCell ⟨g, 2, none⟩ (.int .i64 y.r)).setCell ⟨g, 3, none⟩ (.int .i64 y.l)).heap[g']? = w.heap[g']? :=
  h.set4 (F := fun V => CnBlk V g y ∧ (∀ B, B ≤ g → Below B w V) ∧ ∀ g', g' ≠ g → V.heap[g']? = w.heap[g']?) (fun _ h1 h2 _ h4 => ⟨h1, h2, h4⟩)
section
attribute [local go_sem] ext_drop
set_option maxHeartbeats 8000000 in
theorem walk1_in (n l sB iB : Nat) {s : U.Bs} {rs : List Int} {rest : U.Bs} (hsp : U.Sp s rs rest) (hs : s.length ≤ 1000000) (J Jx : Nat → World → Prop) (W : World) (hn : 3 ≤ n)
    (hsB : Blk W sB 9 #[.string ⟨s.toArray⟩]) (hib : iB < W.heap.size) (hne : sB ≠ iB)
    (hJ : ∀ k A B, J k A → Below W.heap.size A B → J k B)
    (hY : ∀ k A (hk : k < rs.length), J k A → YieldAt Fence.wide (n - 1) Tryd.prog l #[(cnt (rs.take k)).v, (oneC rs[k] (U.wid rs[k])).v] A fun e A' => (e = .returned (.bool true) ∧ J (k + 1) A' ∧ KpB iB A A') ∨ (e = .returned (.bool false) ∧ Jx (k + 1) A'))
    (h0 : J 0 W) : CallsIn Fence.wide n Tryd.prog 76 #[.func (.yield l) #[] #[], .pointer (some ⟨sB, 0, none⟩)] W fun e W' => (∃ v, e = .returned v) ∧ (J rs.length W' ∨ ∃ k, k ≤ rs.length ∧ Jx k W') := by
  have HSP := Hd.mk hsp
  have hlen := hsp.length
  have hll := U.len_le_off rs
  have HL := Hd.mk hlen
  have hle : U.off rs rs.length ≤ s.length := by omega
  clear hsp hlen
  have c0 := hsB.cell 0
  simp only [List.getElem?_toArray, List.getElem?_cons_zero] at c0
  refine callsIn_of_wp Tryd.func76 rfl trivial ?_ rfl
  simp only [Tryd.ntmps76, List.size_toArray, List.length_cons, List.length_nil, Nat.reduceAdd, Nat.reduceSub, Array.replicate_succ, Array.replicate_zero, List.push_toArray, List.append_toArray, List.nil_append, List.cons_append]
  gi_wp2_with fail
  gi_loopw [4] (fun i wr => ∃ k : Nat, k ≤ rs.length ∧ i = .int .i64 (U.off rs k) ∧ CnBlk wr W.heap.size (cnt (rs.take k)) ∧ Blk wr sB 9 #[.string ⟨s.toArray⟩] ∧ J k wr) (fun i _ => s.length - (intOf i).toNat)
  case atStart => exact ⟨0, by omega, rfl, Blk.new _ _ _, hsB.alloc _, hJ 0 _ _ h0 ((Below.refl _ _).alloc (Nat.le_refl _) _)⟩
  case round =>
    obtain ⟨k, hk, rfl, hc, hsb, hj⟩ := hrel
    have HC := Hd.mk hc
    have HSB := Hd.mk hsb
    have HJ := Hd.mk hj
    have hcl := hc.lt
    have d0 := hsb.cell 0
    simp only [List.getElem?_toArray, List.getElem?_cons_zero] at d0
    obtain ⟨e0, e1, e2, e3⟩ := hc.cells
    have ef := hc.frozen
    by_cases hlt : k < rs.length
    · have hol : U.off rs k < U.off rs rs.length := U.off_lt hlt
      have HN := Hd.mk (HSP.out.next_at hlt)
      have HO := Hd.mk (U.off_succ hlt)
      have HY := Hd.mk (hY k · hlt)
      have HCS : Hd (cnt (rs.take (k + 1)) = (cnt (rs.take k)).add (oneC rs[k] (U.wid rs[k]))) := ⟨by rw [List.take_succ_eq_append_getElem hlt, cnt_snoc]⟩
      have hw1 := U.wid_pos rs[k]
      have hw2 := U.wid_le rs[k]
      have HCI := Hd.mk (cnt_in (rs.take k)).1
      have hci : (cnt (rs.take k)).In 2305843009213693952 := by
        obtain ⟨⟨b0, b1, h0, h1, r0, r1, l0, l1⟩, _, _⟩ := cnt_in (rs.take k)
        rw [List.length_take] at b1 h1 r1 l1
        exact ⟨b0, by omega, h0, by omega, r0, by omega, l0, by omega⟩
      have HCI2 := Hd.mk hci
      have HOI : Hd ((oneC rs[k] (U.wid rs[k])).In 2305843009213693952) := ⟨by
        obtain ⟨b0, b1, h0, h1, r0, r1, l0, l1⟩ := oneC_in rs[k]
        exact ⟨b0, by omega, h0, by omega, r0, by omega, l0, by omega⟩⟩
      generalize rs[k] = r at *
      have hn0 : ((U.wid r : Int) == 0) = false := by rw [beq_eq_false_iff_ne]; omega
      clear hci hc hsb hj
      gi_wp2_with fail
      refine ⟨trivial, fun h => absurd h (by decide), (callsIn_wide.2 (next_at HN.out _ (by rw [List.length_drop]; omega))).mono ?_⟩
      rintro e w' ⟨rfl, rfl⟩
      gi_wp2_with fail
      refine ⟨trivial, fun h => absurd h (by decide), (callsIn_wide.2 (one_calls r (U.wid r) _)).mono ?_⟩
      rintro e w1 ⟨rfl, hb1⟩
      generalize oneC r (U.wid r) = x1 at *
      generalize cnt (rs.take k) = cc at *
      have hzw : W.heap.size ≤ wr.heap.size := by omega
      have hc1 := HC.out.below hb1 hcl
      have hsb1 := HSB.out.below hb1 HSB.out.lt
      have hxb : Blk (w1.alloc (.cells #[.int .i64 x1.b, .int .i64 x1.h, .int .i64 x1.r, .int .i64 x1.l] 36)) w1.heap.size 36 #[.int .i64 x1.b, .int .i64 x1.h, .int .i64 x1.r, .int .i64 x1.l] := Blk.new _ _ _
      have hca : CnBlk (w1.alloc (.cells #[.int .i64 x1.b, .int .i64 x1.h, .int .i64 x1.r, .int .i64 x1.l] 36)) W.heap.size cc := (Below.heap_alloc w1 _ _ hc1.lt).trans hc1
      have hsba := hsb1.alloc (.cells #[.int .i64 x1.b, .int .i64 x1.h, .int .i64 x1.r, .int .i64 x1.l] 36)
      have hja := hJ k wr _ HJ.out ((hb1.mono hzw).alloc (by have := hb1.size; omega) (.cells #[.int .i64 x1.b, .int .i64 x1.h, .int .i64 x1.r, .int .i64 x1.l] 36))
      have hz1 := hb1.size
      obtain ⟨e0, e1, e2, e3⟩ := hc1.cells
      have hlt1 := hc1.lt
      have hne1 : W.heap.size ≠ w1.heap.size := by omega
      have hne2 : ¬ W.heap.size = w1.heap.size := hne1
      obtain ⟨fn, tmps, assign, body, hy, hR⟩ := HY.out _ hja
      have HR := Hd.mk hR
      have HXB := Hd.mk hxb
      have HCA := Hd.mk hca
      have HSBA := Hd.mk hsba
      clear hR hxb hca hsba hja hb1 hc1 hsb1
      gi_wp2_with fail
      refine ⟨fun _ => by omega, HR.out.mono ?_⟩
      rintro e W3 (⟨rfl, hJ3, hk3⟩ | ⟨rfl, hJx3⟩)
      · have hz3 := hk3.1
        simp only [World.size_alloc] at hz3
        have hc3 : CnBlk W3 W.heap.size cc := hk3.2 _ _ _ HCA.out (by omega)
        have hx3 : CnBlk W3 w1.heap.size x1 := hk3.2 _ _ _ HXB.out (by omega)
        have hs3 : Blk W3 sB 9 #[.string ⟨s.toArray⟩] := hk3.2 _ _ _ HSBA.out hne
        obtain ⟨e0, e1, e2, e3⟩ := hc3.cells
        obtain ⟨f0, f1, f2, f3⟩ := hx3.cells
        have HC3 := Hd.mk hc3
        have HS3 := Hd.mk hs3
        have HJ3 := Hd.mk hJ3
        clear hc3 hx3 hs3 hJ3 hk3
        gi_wp2_with fail
        refine ⟨trivial, fun h => absurd h (by decide), (callsIn_wide.2 (plus_calls cc x1 _ HCI2.out HOI.out)).mono ?_⟩
        rintro e w4 ⟨rfl, hb4⟩
        have hc4 := HC3.out.below hb4 HC3.out.lt
        obtain ⟨e0, e1, e2, e3⟩ := hc4.cells
        have ef4 := hc4.frozen
        have HC4 := Hd.mk hc4
        have HS4 := Hd.mk (HS3.out.below hb4 HS3.out.lt)
        have hzz : W.heap.size ≤ W3.heap.size := by omega
        have HJ4 := Hd.mk (hJ (k + 1) _ _ HJ3.out (hb4.mono hzz))
        have hsn : sB ≠ W.heap.size := by have := hsB.lt; omega
        obtain ⟨n1, n2, n3⟩ := cn_set (y := cc.add x1) HC4.out
        have HN1 := Hd.mk n1
        have HN2 := Hd.mk (hJ (k + 1) _ _ HJ4.out (n2 _ (Nat.le_refl _)))
        have HN3 : Hd (Blk _ sB 9 #[.string ⟨s.toArray⟩]) := ⟨(n3 sB hsn).trans HS4.out⟩
        clear hc4 hb4 n1 n2 n3
        gi_wp2_with fail
        exact ⟨⟨k + 1, by omega, by rw [HO.out]; go_num, by rw [HCS.out]; exact HN1.out, HN3.out, HN2.out⟩, by simp only [intOf]; omega⟩
      · gi_wp2_with fail
        refine bodyPost_ret (results_none rfl _ _ _) rfl ?_
        exact ⟨⟨_, rfl⟩, .inr ⟨k + 1, by omega, hJx3⟩⟩
    · obtain rfl : k = rs.length := by omega
      have HJE := Hd.mk hj
      clear hc hsb hj HC HSB
      by_cases hr : rest = []
      · subst hr
        have hge : ¬ U.off rs rs.length < s.length := by have := HL.out; simp at this; omega
        clear hlt
        gi_wp2_with fail
        go_end0
        exact ⟨⟨_, rfl⟩, .inl HJE.out⟩
      · have hlt' : U.off rs rs.length < s.length := by
          have := HL.out
          have h2 : 0 < rest.length := List.length_pos_iff.2 hr
          omega
        have HN := Hd.mk HSP.out.next_end
        clear hlt hr
        gi_wp2_with fail
        refine ⟨trivial, fun h => absurd h (by decide), (callsIn_wide.2 (next_at HN.out _ (by rw [List.length_drop]; omega))).mono ?_⟩
        rintro e w' ⟨rfl, rfl⟩
        gi_wp2_with fail
        refine bodyPost_ret (results_none rfl _ _ _) rfl ?_
        exact ⟨⟨_, rfl⟩, .inl HJE.out⟩
end
end Go.Proofs.YtgokmldngnmmhaaDoor
