/- Several texts of the proof, one behind the other: WalkI, RopeM, RopeU. -/
import Derived.Test.YtdgdajnbkfmijaaGreatDoorMRoomMeets7
import Derived.Test.YtdgdajnbkfmijaaGreatDoorMRoomMeets1
import Derived.RangeFuncNested
import Derived.RangeFuncBound
import Derived.RangeFuncCalls
import Derived.RangeFuncLeaves
import Derived.Shelf.Abstract
import Derived.Shelf.RegionOpen
import Derived.WalkKit
import Derived.OwnWalkIn
import Derived.TacticsInMore
import Derived.LoopNIn
import Derived.LoopIn
/- utf.Walk's function, as an iterator. -/
namespace Go.Proofs.YtdgdajnbkfmijaaGreatDoor
open Go.RowKit Go.Shelf
set_option maxRecDepth 100000
attribute [local go_sem] Oper.semAt_some
/-- What a round keeps: every variable but one. -/
def KpB (b : Nat) (A A' : World) : Prop := A.heap.size ≤ A'.heap.size ∧ ∀ k cs t, A.heap[k]? = some (.cells cs t (0, 0)) → k ≠ b → A'.heap[k]? = some (.cells cs t (0, 0))
theorem cn_set {w : World} {g : Nat} {x y : Cn} (h : CnBlk w g x) : CnBlk ((((w.setCell ⟨g, 0, none⟩ (.int .i64 y.b)).setCell ⟨g, 1, none⟩ (.int .i64 y.h)).setCell ⟨g, 2, none⟩ (.int .i64 y.r)).setCell ⟨g, 3, none⟩ (.int .i64 y.l)) g y ∧
    (∀ B, B ≤ g → Below B w ((((w.setCell ⟨g, 0, none⟩ (.int .i64 y.b)).setCell ⟨g, 1, none⟩ (.int .i64 y.h)).setCell ⟨g, 2, none⟩ (.int .i64 y.r)).setCell ⟨g, 3, none⟩ (.int .i64 y.l))) ∧
    ∀ g', g' ≠ g → ((((w.setCell ⟨g, 0, none⟩ (.int .i64 y.b)).setCell ⟨g, 1, none⟩ (.int .i64 y.h)).setCell ⟨g, 2, none⟩ (.int .i64 y.r)).setCell ⟨g, 3, none⟩ (.int .i64 y.l)).heap[g']? = w.heap[g']? :=
  h.set4 (F := fun V => CnBlk V g y ∧ (∀ B, B ≤ g → Below B w V) ∧ ∀ g', g' ≠ g → V.heap[g']? = w.heap[g']?) (fun _ h1 h2 _ h4 => ⟨h1, h2, h4⟩)
section
attribute [local go_sem] ext_drop
set_option maxHeartbeats 8000000 in
theorem walk1_in (n l sB iB : Nat) {s : U.Bs} {rs : List Int} {rest : U.Bs} (hsp : U.Sp s rs rest) (hs : s.length ≤ 1000000) (J Jx : Nat → World → Prop) (W : World) (hn : 3 ≤ n)
    (hsB : Blk W sB 9 #[.string ⟨s.toArray⟩]) (hib : iB < W.heap.size) (hne : sB ≠ iB)
    (hJ : ∀ k A B, J k A → Below W.heap.size A B → J k B)
    (hY : ∀ k A (hk : k < rs.length), J k A → YieldAt Fence.wide (n - 1) Tryz.prog l #[(cnt (rs.take k)).v, (oneC rs[k] (U.wid rs[k])).v] A fun e A' => (e = .returned (.bool true) ∧ J (k + 1) A' ∧ KpB iB A A') ∨ (e = .returned (.bool false) ∧ Jx (k + 1) A'))
    (h0 : J 0 W) : CallsIn Fence.wide n Tryz.prog 177 #[.func (.yield l) #[] #[], .pointer (some ⟨sB, 0, none⟩)] W fun e W' => (∃ v, e = .returned v) ∧ (J rs.length W' ∨ ∃ k, k ≤ rs.length ∧ Jx k W') := by
  have HSP := Hd.mk hsp
  have hlen := hsp.length
  have hll := U.len_le_off rs
  have HL := Hd.mk hlen
  have hle : U.off rs rs.length ≤ s.length := by omega
  clear hsp hlen
  have c0 := hsB.cell 0
  simp only [List.getElem?_toArray, List.getElem?_cons_zero] at c0
  refine callsIn_of_wp Tryz.func177 rfl trivial ?_ rfl
  simp only [Tryz.ntmps177, List.size_toArray, List.length_cons, List.length_nil, Nat.reduceAdd, Nat.reduceSub, Array.replicate_succ, Array.replicate_zero, List.push_toArray, List.append_toArray, List.nil_append, List.cons_append]
  gi_wp2_with fail
  gi_loopw [4] (fun i wr => ∃ k : Nat, k ≤ rs.length ∧ i = .int .i64 (U.off rs k) ∧ CnBlk wr W.heap.size (cnt (rs.take k)) ∧ Blk wr sB 9 #[.string ⟨s.toArray⟩] ∧ J k wr) (fun i _ => s.length - (intOf i).toNat)
  case atStart => exact ⟨0, by omega, rfl, Blk.new _ _ _, hsB.alloc _, hJ 0 _ _ h0 ((Below.refl _ _).alloc (Nat.le_refl _) _)⟩
  case round =>
    obtain ⟨k, hk, rfl, hc, hsb, hj⟩ := hrel
    have HC := Hd.mk hc
    have HSB := Hd.mk hsb
    have HJ := Hd.mk hj
    have hcl := hc.lt
    have d0 := hsb.cell 0
    simp only [List.getElem?_toArray, List.getElem?_cons_zero] at d0
    obtain ⟨e0, e1, e2, e3⟩ := hc.cells
    have ef := hc.frozen
    by_cases hlt : k < rs.length
    · have hol : U.off rs k < U.off rs rs.length := U.off_lt hlt
      have HN := Hd.mk (HSP.out.next_at hlt)
      have HO := Hd.mk (U.off_succ hlt)
      have HY := Hd.mk (hY k · hlt)
      have HCS : Hd (cnt (rs.take (k + 1)) = (cnt (rs.take k)).add (oneC rs[k] (U.wid rs[k]))) := ⟨by rw [List.take_succ_eq_append_getElem hlt, cnt_snoc]⟩
      have hw1 := U.wid_pos rs[k]
      have hw2 := U.wid_le rs[k]
      have HCI := Hd.mk (cnt_in (rs.take k)).1
      have hci : (cnt (rs.take k)).In 2305843009213693952 := by
        obtain ⟨⟨b0, b1, h0, h1, r0, r1, l0, l1⟩, _, _⟩ := cnt_in (rs.take k)
        rw [List.length_take] at b1 h1 r1 l1
        exact ⟨b0, by omega, h0, by omega, r0, by omega, l0, by omega⟩
      have HCI2 := Hd.mk hci
      have HOI : Hd ((oneC rs[k] (U.wid rs[k])).In 2305843009213693952) := ⟨by
        obtain ⟨b0, b1, h0, h1, r0, r1, l0, l1⟩ := oneC_in rs[k]
        exact ⟨b0, by omega, h0, by omega, r0, by omega, l0, by omega⟩⟩
      generalize rs[k] = r at *
      have hn0 : ((U.wid r : Int) == 0) = false := by rw [beq_eq_false_iff_ne]; omega
      clear hci hc hsb hj
      gi_wp2_with fail
      refine ⟨trivial, fun h => absurd h (by decide), (callsIn_wide.2 (next_at HN.out _ (by rw [List.length_drop]; omega))).mono ?_⟩
      rintro e w' ⟨rfl, rfl⟩
      gi_wp2_with fail
      refine ⟨trivial, fun h => absurd h (by decide), (callsIn_wide.2 (one_calls r (U.wid r) _)).mono ?_⟩
      rintro e w1 ⟨rfl, hb1⟩
      generalize oneC r (U.wid r) = x1 at *
      generalize cnt (rs.take k) = cc at *
      have hzw : W.heap.size ≤ wr.heap.size := by omega
      have hc1 := HC.out.below hb1 hcl
      have hsb1 := HSB.out.below hb1 HSB.out.lt
      have hxb : Blk (w1.alloc (.cells #[.int .i64 x1.b, .int .i64 x1.h, .int .i64 x1.r, .int .i64 x1.l] 63)) w1.heap.size 63 #[.int .i64 x1.b, .int .i64 x1.h, .int .i64 x1.r, .int .i64 x1.l] := Blk.new _ _ _
      have hca : CnBlk (w1.alloc (.cells #[.int .i64 x1.b, .int .i64 x1.h, .int .i64 x1.r, .int .i64 x1.l] 63)) W.heap.size cc := (Below.heap_alloc w1 _ _ hc1.lt).trans hc1
      have hsba := hsb1.alloc (.cells #[.int .i64 x1.b, .int .i64 x1.h, .int .i64 x1.r, .int .i64 x1.l] 63)
      have hja := hJ k wr _ HJ.out ((hb1.mono hzw).alloc (by have := hb1.size; omega) (.cells #[.int .i64 x1.b, .int .i64 x1.h, .int .i64 x1.r, .int .i64 x1.l] 63))
      have hz1 := hb1.size
      obtain ⟨e0, e1, e2, e3⟩ := hc1.cells
      have hlt1 := hc1.lt
      have hne1 : W.heap.size ≠ w1.heap.size := by omega
      have hne2 : ¬ W.heap.size = w1.heap.size := hne1
      obtain ⟨fn, tmps, assign, body, hy, hR⟩ := HY.out _ hja
      have HR := Hd.mk hR
      have HXB := Hd.mk hxb
      have HCA := Hd.mk hca
      have HSBA := Hd.mk hsba
      clear hR hxb hca hsba hja hb1 hc1 hsb1
      gi_wp2_with fail
      refine ⟨fun _ => by omega, HR.out.mono ?_⟩
      rintro e W3 (⟨rfl, hJ3, hk3⟩ | ⟨rfl, hJx3⟩)
      · have hz3 := hk3.1
        simp only [World.size_alloc] at hz3
        have hc3 : CnBlk W3 W.heap.size cc := hk3.2 _ _ _ HCA.out (by omega)
        have hx3 : CnBlk W3 w1.heap.size x1 := hk3.2 _ _ _ HXB.out (by omega)
        have hs3 : Blk W3 sB 9 #[.string ⟨s.toArray⟩] := hk3.2 _ _ _ HSBA.out hne
        obtain ⟨e0, e1, e2, e3⟩ := hc3.cells
        obtain ⟨f0, f1, f2, f3⟩ := hx3.cells
        have HC3 := Hd.mk hc3
        have HS3 := Hd.mk hs3
        have HJ3 := Hd.mk hJ3
        clear hc3 hx3 hs3 hJ3 hk3
        gi_wp2_with fail
        refine ⟨trivial, fun h => absurd h (by decide), (callsIn_wide.2 (plus_calls cc x1 _ HCI2.out HOI.out)).mono ?_⟩
        rintro e w4 ⟨rfl, hb4⟩
        have hc4 := HC3.out.below hb4 HC3.out.lt
        obtain ⟨e0, e1, e2, e3⟩ := hc4.cells
        have ef4 := hc4.frozen
        have HC4 := Hd.mk hc4
        have HS4 := Hd.mk (HS3.out.below hb4 HS3.out.lt)
        have hzz : W.heap.size ≤ W3.heap.size := by omega
        have HJ4 := Hd.mk (hJ (k + 1) _ _ HJ3.out (hb4.mono hzz))
        have hsn : sB ≠ W.heap.size := by have := hsB.lt; omega
        obtain ⟨n1, n2, n3⟩ := cn_set (y := cc.add x1) HC4.out
        have HN1 := Hd.mk n1
        have HN2 := Hd.mk (hJ (k + 1) _ _ HJ4.out (n2 _ (Nat.le_refl _)))
        have HN3 : Hd (Blk _ sB 9 #[.string ⟨s.toArray⟩]) := ⟨(n3 sB hsn).trans HS4.out⟩
        clear hc4 hb4 n1 n2 n3
        gi_wp2_with fail
        exact ⟨⟨k + 1, by omega, by rw [HO.out]; go_num, by rw [HCS.out]; exact HN1.out, HN3.out, HN2.out⟩, by simp only [intOf]; omega⟩
      · gi_wp2_with fail
        refine bodyPost_ret (results_none rfl _ _ _) rfl ?_
        exact ⟨⟨_, rfl⟩, .inr ⟨k + 1, by omega, hJx3⟩⟩
    · obtain rfl : k = rs.length := by omega
      have HJE := Hd.mk hj
      clear hc hsb hj HC HSB
      by_cases hr : rest = []
      · subst hr
        have hge : ¬ U.off rs rs.length < s.length := by have := HL.out; simp at this; omega
        clear hlt
        gi_wp2_with fail
        go_end0
        exact ⟨⟨_, rfl⟩, .inl HJE.out⟩
      · have hlt' : U.off rs rs.length < s.length := by
          have := HL.out
          have h2 : 0 < rest.length := List.length_pos_iff.2 hr
          omega
        have HN := Hd.mk HSP.out.next_end
        clear hlt hr
        gi_wp2_with fail
        refine ⟨trivial, fun h => absurd h (by decide), (callsIn_wide.2 (next_at HN.out _ (by rw [List.length_drop]; omega))).mono ?_⟩
        rintro e w' ⟨rfl, rfl⟩
        gi_wp2_with fail
        refine bodyPost_ret (results_none rfl _ _ _) rfl ?_
        exact ⟨⟨_, rfl⟩, .inl HJE.out⟩
end
end Go.Proofs.YtdgdajnbkfmijaaGreatDoor
/- A rope's tree: in Lean, and in memory. -/
namespace Go.Proofs.YtdgdajnbkfmijaaGreatDoor
open Go.RowKit
set_option maxRecDepth 100000
theorem cn_ext {x y : Cn} (h1 : x.b = y.b) (h2 : x.h = y.h) (h3 : x.r = y.r) (h4 : x.l = y.l) : x = y := by
  cases x; cases y; simp_all
theorem cnt_append (a b : List Int) : cnt (a ++ b) = (cnt a).add (cnt b) := by
  suffices h : ∀ n (b : List Int), b.length = n → cnt (a ++ b) = (cnt a).add (cnt b) from h _ b rfl
  intro n
  induction n with
  | zero =>
    intro b hb
    obtain rfl := List.length_eq_zero_iff.1 hb
    rw [List.append_nil]
    refine cn_ext ?_ ?_ ?_ ?_ <;> simp [Cn.add, cnt, Cn.zero]
  | succ n ih =>
    intro b hb
    obtain ⟨c, r, rfl⟩ : ∃ c r, b = c ++ [r] := by
      rcases List.eq_nil_or_concat b with rfl | ⟨c, r, rfl⟩
      · simp at hb
      · exact ⟨c, r, by simp⟩
    rw [← List.append_assoc, cnt_snoc, ih c (by simp at hb; omega), cnt_snoc]
    refine cn_ext ?_ ?_ ?_ ?_ <;> simp [Cn.add, Int.add_assoc]
theorem cnt_big {rs : List Int} (h : rs.length ≤ 1099511627776) : (cnt rs).In 2305843009213693952 := by
  obtain ⟨⟨b0, b1, h0, h1, r0, r1, l0, l1⟩, _, _⟩ := cnt_in rs
  exact ⟨b0, by omega, h0, by omega, r0, by omega, l0, by omega⟩
/-- A tree: each node with its block and the runes of its chunk. -/
inductive RT where
  | nil : RT
  | node (g : Nat) (rs : List Int) (l r : RT) : RT
namespace RT
def high : RT → Nat
  | nil => 0
  | node _ _ l r => 1 + max l.high r.high
def nodes : RT → List (Nat × List Int)
  | nil => []
  | node g rs l r => l.nodes ++ (g, rs) :: r.nodes
def runes : RT → List Int
  | nil => []
  | node _ rs l r => l.runes ++ rs ++ r.runes
def blocks (t : RT) : List Nat := t.nodes.map Prod.fst
def pa : RT → Option Addr
  | nil => none
  | node g _ _ _ => some ⟨g, 0, none⟩
def ptr (t : RT) : Value := .pointer t.pa
theorem ptr_nil : nil.ptr = .pointer none := rfl
theorem ptr_node (g : Nat) (rs : List Int) (l r : RT) : (node g rs l r).ptr = .pointer (some ⟨g, 0, none⟩) := rfl
@[simp] theorem high_nil : nil.high = 0 := rfl
@[simp] theorem high_node (g : Nat) (rs : List Int) (l r : RT) : (node g rs l r).high = 1 + max l.high r.high := rfl
@[simp] theorem nodes_nil : nil.nodes = [] := rfl
@[simp] theorem nodes_node (g : Nat) (rs : List Int) (l r : RT) : (node g rs l r).nodes = l.nodes ++ (g, rs) :: r.nodes := rfl
@[simp] theorem blocks_nil : nil.blocks = [] := rfl
@[simp] theorem blocks_node (g : Nat) (rs : List Int) (l r : RT) : (node g rs l r).blocks = l.blocks ++ g :: r.blocks := by simp [blocks]
@[simp] theorem runes_nil : nil.runes = [] := rfl
@[simp] theorem runes_node (g : Nat) (rs : List Int) (l r : RT) : (node g rs l r).runes = l.runes ++ rs ++ r.runes := rfl
theorem runes_nodes (t : RT) : t.runes = t.nodes.flatMap Prod.snd := by
  induction t with
  | nil => rfl
  | node g rs l r ihl ihr => simp [ihl, ihr]
theorem high_le (t : RT) : t.high ≤ t.nodes.length := by
  induction t with
  | nil => simp
  | node g rs l r ihl ihr => simp; omega
end RT
/-- The cells of a node. -/
def nodeV (rs : List Int) (all : Cn) (l r : Value) (h : Int) : Array Value :=
  #[.string ⟨(U.encs rs).toArray⟩, .int .i64 (cnt rs).b, .int .i64 (cnt rs).h, .int .i64 (cnt rs).r, .int .i64 (cnt rs).l, .int .i64 all.b, .int .i64 all.h, .int .i64 all.r, .int .i64 all.l, l, r, .int .i64 h]
/-- The tree in memory. -/
def AtT (w : World) : RT → Prop
  | .nil => True
  | .node g rs l r => Blk w g 189 (nodeV rs (cnt (l.runes ++ rs ++ r.runes)) l.ptr r.ptr ((1 + max l.high r.high : Nat) : Int)) ∧ AtT w l ∧ AtT w r
/-- .. whose root's counts and height are not right yet. -/
def RawT (w : World) (g : Nat) (rs : List Int) (l r : RT) : Prop :=
  (∃ all h, Blk w g 189 (nodeV rs all l.ptr r.ptr h)) ∧ AtT w l ∧ AtT w r
theorem AtT.raw {w : World} {g : Nat} {rs : List Int} {l r : RT} (h : AtT w (.node g rs l r)) : RawT w g rs l r := ⟨⟨_, _, h.1⟩, h.2⟩
theorem AtT.only {S : Nat → Prop} {w w' : World} {t : RT} (h : AtT w t) (ho : Only S w w') (hs : ∀ b ∈ t.blocks, ¬ S b) : AtT w' t := by
  induction t with
  | nil => trivial
  | node g rs l r ihl ihr =>
    simp only [RT.blocks_node, List.mem_append, List.mem_cons] at hs
    exact ⟨h.1.only ho (hs g (.inr (.inl rfl))), ihl h.2.1 (fun b hb => hs b (.inl hb)), ihr h.2.2 (fun b hb => hs b (.inr (.inr hb)))⟩
theorem AtT.below {w w' : World} {t : RT} (h : AtT w t) (hb : Below w.heap.size w w') : AtT w' t := h.only (Only.of_below (S := fun _ => False) hb) (fun _ _ h => h)
theorem AtT.lt {w : World} {t : RT} (h : AtT w t) : ∀ b ∈ t.blocks, b < w.heap.size := by
  induction t with
  | nil => simp
  | node g rs l r ihl ihr =>
    simp only [RT.blocks_node, List.mem_append, List.mem_cons]
    rintro b (hb | rfl | hb)
    · exact ihl h.2.1 b hb
    · exact h.1.lt
    · exact ihr h.2.2 b hb
theorem nodeV_cell {w : World} {g : Nat} {rs : List Int} {all : Cn} {l r : Value} {h : Int} (hb : Blk w g 189 (nodeV rs all l r h)) :
    w.cell? ⟨g, 0, none⟩ = some (.string ⟨(U.encs rs).toArray⟩) ∧ w.cell? ⟨g, 1, none⟩ = some (.int .i64 (cnt rs).b) ∧ w.cell? ⟨g, 2, none⟩ = some (.int .i64 (cnt rs).h) ∧ w.cell? ⟨g, 3, none⟩ = some (.int .i64 (cnt rs).r) ∧ w.cell? ⟨g, 4, none⟩ = some (.int .i64 (cnt rs).l) ∧
    w.cell? ⟨g, 5, none⟩ = some (.int .i64 all.b) ∧ w.cell? ⟨g, 6, none⟩ = some (.int .i64 all.h) ∧ w.cell? ⟨g, 7, none⟩ = some (.int .i64 all.r) ∧ w.cell? ⟨g, 8, none⟩ = some (.int .i64 all.l) ∧
    w.cell? ⟨g, 9, none⟩ = some l ∧ w.cell? ⟨g, 10, none⟩ = some r ∧ w.cell? ⟨g, 11, none⟩ = some (.int .i64 h) :=
  ⟨hb.cell 0, hb.cell 1, hb.cell 2, hb.cell 3, hb.cell 4, hb.cell 5, hb.cell 6, hb.cell 7, hb.cell 8, hb.cell 9, hb.cell 10, hb.cell 11⟩
end Go.Proofs.YtdgdajnbkfmijaaGreatDoor
/- Places in runes, by a unit, and by lines. Plain. -/
namespace Go.Proofs.YtdgdajnbkfmijaaGreatDoor
theorem of_add (x y : Cn) (u : Int) : (x.add y).of u = x.of u + y.of u := by
  unfold Cn.of Cn.add
  repeat' split
  all_goals simp
theorem of_zero (u : Int) : Cn.zero.of u = 0 := by
  unfold Cn.of Cn.zero
  repeat' split
  all_goals rfl
theorem cnt_nil : cnt [] = Cn.zero := rfl
theorem cnt_one (r : Int) : cnt [r] = oneC r (U.wid r) := by
  have := cnt_snoc [] r
  simp only [List.nil_append] at this
  rw [this, cnt_nil]
  unfold Cn.add Cn.zero
  refine cn_ext ?_ ?_ ?_ ?_ <;> simp
theorem of_one (r : Int) {u : Int} (hu : 1 ≤ u ∧ u ≤ 3) : 1 ≤ (oneC r (U.wid r)).of u := by
  have := U.wid_pos r
  obtain rfl | rfl | rfl : u = 1 ∨ u = 2 ∨ u = 3 := by omega
  all_goals simp only [Cn.of, oneC]
  · simp; omega
  · simp; split <;> omega
  · simp
theorem of_len (rs : List Int) {u : Int} (hu : 1 ≤ u ∧ u ≤ 3) : (rs.length : Int) ≤ (cnt rs).of u := by
  induction rs with
  | nil => rw [cnt_nil, of_zero]; simp
  | cons r rs ih =>
    have e : r :: rs = [r] ++ rs := rfl
    rw [e, cnt_append, of_add, cnt_one]
    have := of_one r hu
    simp; omega
theorem of_nn (rs : List Int) (u : Int) : 0 ≤ (cnt rs).of u := by
  obtain ⟨⟨b0, b1, h0, h1, r0, r1, l0, l1⟩, -, -⟩ := cnt_in rs
  unfold Cn.of
  repeat' split
  all_goals omega
theorem l_nn (rs : List Int) : 0 ≤ (cnt rs).l := by
  obtain ⟨⟨b0, b1, h0, h1, r0, r1, l0, l1⟩, -, -⟩ := cnt_in rs
  exact l0
theorem cnt_app_of (a b : List Int) (u : Int) : (cnt (a ++ b)).of u = (cnt a).of u + (cnt b).of u := by rw [cnt_append, of_add]
theorem cnt_app_l (a b : List Int) : (cnt (a ++ b)).l = (cnt a).l + (cnt b).l := by rw [cnt_append]; rfl
theorem cnt_one_l (r : Int) : (cnt [r]).l = if r = 10 then 1 else 0 := by rw [cnt_one]; rfl
/-- A place, by a unit, of runes. -/
def Pl (u at_ : Int) (R : List Int) (c : Cn) : Prop := ∃ p q, R = p ++ q ∧ (cnt p).of u = at_ ∧ c = cnt p
/-- Two parts ahead, by a unit in order: the one begins the other. -/
theorem pre_le {p q p' q' : List Int} (h : p ++ q = p' ++ q') : (∃ d, p' = p ++ d ∧ q = d ++ q') ∨ (∃ d, p = p' ++ d ∧ q' = d ++ q) := by
  rcases List.append_eq_append_iff.1 h with ⟨c, h1, h2⟩ | ⟨c, h1, h2⟩
  · exact .inl ⟨c, h1, h2⟩
  · exact .inr ⟨c, h1, h2⟩
theorem pre_unique {p q p' q' : List Int} {u : Int} (hu : 1 ≤ u ∧ u ≤ 3) (h : p ++ q = p' ++ q') (e : (cnt p).of u = (cnt p').of u) : p = p' ∧ q = q' := by
  rcases pre_le h with ⟨d, h1, h2⟩ | ⟨d, h1, h2⟩
  · rw [h1, cnt_app_of] at e
    have := of_len d hu
    have : d = [] := List.eq_nil_of_length_eq_zero (by omega)
    subst this
    simp at h1 h2; exact ⟨h1.symm, h2⟩
  · rw [h1, cnt_app_of] at e
    have := of_len d hu
    have : d = [] := List.eq_nil_of_length_eq_zero (by omega)
    subst this
    simp at h1 h2; exact ⟨h1, h2.symm⟩
theorem Pl.unique {u at_ : Int} {R : List Int} {c c' : Cn} (hu : 1 ≤ u ∧ u ≤ 3) (h : Pl u at_ R c) (h' : Pl u at_ R c') : c = c' := by
  obtain ⟨p, q, e1, e2, rfl⟩ := h
  obtain ⟨p', q', e1', e2', rfl⟩ := h'
  rw [(pre_unique hu (e1.symm.trans e1') (e2.trans e2'.symm)).1]
theorem Pl.range {u at_ : Int} {R : List Int} {c : Cn} (h : Pl u at_ R c) : 0 ≤ at_ ∧ at_ ≤ (cnt R).of u := by
  obtain ⟨p, q, rfl, rfl, rfl⟩ := h
  rw [cnt_app_of]
  have := of_nn p u
  have := of_nn q u
  omega
/-- Within a rune there is no place. -/
theorem no_pl {p q : List Int} {r u at_ : Int} {c : Cn} (_hu : 1 ≤ u ∧ u ≤ 3) (h1 : (cnt p).of u < at_) (h2 : at_ < (cnt (p ++ [r])).of u) : ¬ Pl u at_ (p ++ r :: q) c := by
  rintro ⟨p', q', e1, e2, -⟩
  have e : p ++ r :: q = (p ++ [r]) ++ q := by simp
  rcases pre_le e1 with ⟨d, h3, h4⟩ | ⟨d, h3, h4⟩
  · cases d with
    | nil => simp at h3; subst h3; omega
    | cons y d =>
      simp only [List.cons_append, List.cons.injEq] at h4
      obtain ⟨rfl, h5⟩ := h4
      have : p' = (p ++ [r]) ++ d := by rw [h3]; simp
      rw [this, cnt_app_of] at e2
      have := of_nn d u
      omega
  · rw [h3, cnt_app_of] at h1
    have := of_nn d u
    omega
/-- Where a line begins. -/
def Ln (n : Int) (R : List Int) (c : Cn) : Prop := ∃ p q, R = p ++ q ∧ (cnt p).l = n ∧ c = cnt p ∧ (p = [] ∨ ∃ p', p = p' ++ [10])
theorem Ln.unique {n : Int} {R : List Int} {c c' : Cn} (h : Ln n R c) (h' : Ln n R c') : c = c' := by
  obtain ⟨p, q, e1, e2, rfl, e3⟩ := h
  obtain ⟨p', q', e1', e2', rfl, e3'⟩ := h'
  suffices hh : p = p' by rw [hh]
  have key : ∀ (p d : List Int), (cnt (p ++ d)).l = (cnt p).l → (p ++ d = [] ∨ ∃ p', p ++ d = p' ++ [10]) → d = [] := by
    intro p d h1 h2
    rcases List.eq_nil_or_concat d with rfl | ⟨d', y, rfl⟩
    · rfl
    · rcases h2 with h2 | ⟨p', h2⟩
      · simp at h2
      · exfalso
        have e : p ++ (d' ++ [y]) = (p ++ d') ++ [y] := by simp
        simp only [List.concat_eq_append] at h1 h2
        rw [e] at h2
        have hy := (List.append_inj' h2 rfl).2
        simp at hy
        subst hy
        rw [cnt_app_l, cnt_app_l, cnt_one_l] at h1
        have := l_nn d'
        simp at h1
        omega
  rcases pre_le (e1.symm.trans e1') with ⟨d, h1, h2⟩ | ⟨d, h1, h2⟩
  · have := key p d (by rw [← h1, e2, e2']) (by rw [← h1]; exact e3')
    subst this; simpa using h1.symm
  · have := key p' d (by rw [← h1, e2, e2']) (by rw [← h1]; exact e3)
    subst this; simpa using h1
end Go.Proofs.YtdgdajnbkfmijaaGreatDoor
