/- Text. -/
import Derived.Test.YtdgdajnbkfmijaaGreatDoorMRoomMeets13
import Derived.Test.YtdgdajnbkfmijaaGreatDoorMRoomMeets3
import Derived.Laws.EntriesVeiled
namespace Go.Proofs.YtdgdajnbkfmijaaGreatDoor
open Go.RowKit Go.Shelf
set_option maxRecDepth 100000
theorem blk_keep {w w' : World} {g b : Nat} {t : TypeId} {cs : Array Value} (h : Blk w g t cs) (hk : Lib.OthersKept 5 (some b) w w') (hg : g ≠ b) (ht : t ≠ 5) : Blk w' g t cs :=
  hk g _ h (by simpa using hg) (fun c fz e => by injection e with e1 e2 e3; exact ht e2)
theorem AtT.keep {w w' : World} {b : Nat} {t : RT} (h : AtT w t) (hk : Lib.OthersKept 5 (some b) w w') (hb : b ∉ t.blocks) : AtT w' t := by
  induction t with
  | nil => trivial
  | node g rs l r ihl ihr =>
    simp only [RT.blocks_node, List.mem_append, List.mem_cons, not_or] at hb
    exact ⟨blk_keep h.1 hk (Ne.symm hb.2.1) (by decide), ihl h.2.1 hb.1, ihr h.2.2 hb.2.2⟩
theorem AtR.keep {w w' : World} {b p : Nat} {t : RT} (h : AtR w p t) (hk : Lib.OthersKept 5 (some b) w w') (hb : b ∉ t.blocks) (hp : p ≠ b) : AtR w' p t :=
  ⟨blk_keep h.blk hk hp (by decide), h.tree.keep hk hb, h.out⟩
/-- The closure that goes through the tree: its variable. -/
def walkV (v b : Nat) : Value := .func (.func 98) #[] #[.pointer (some ⟨v, 0, none⟩), .pointer (some ⟨b, 0, none⟩)]
/-- What the closure hands back. -/
def T1Post (B b : Nat) (l : List UInt8) (w : World) (e : Ending) (w' : World) : Prop :=
  e = .returned (.tuple #[]) ∧ Lib.IsBuilderF 186 5 B b (Lib.byteCells l) w' ∧ Below B w w' ∧ Lib.OthersKept 5 (some b) w w'
set_option maxHeartbeats 2000000 in
theorem text1_calls {B b v : Nat} {t : RT} {l : List UInt8} {w : World} (ht : AtT w t) (hv : Blk w v 187 #[walkV v b]) (hb : Lib.IsBuilderF 186 5 B b (Lib.byteCells l) w) (hvb : v ≠ b) (htb : b ∉ t.blocks) (hBw : B ≤ w.heap.size)
    (hlen : l.length + bl t.runes ≤ 1000000) : Calls Tryz.prog 98 #[t.ptr, .pointer (some ⟨v, 0, none⟩), .pointer (some ⟨b, 0, none⟩)] w (T1Post B b (l ++ U.encs t.runes) w) := by
  induction t generalizing l w with
  | nil =>
    have HB := Hd.mk hb
    rw [RT.ptr_nil]
    clear ht hv hb
    go_enter Tryz.func98, Tryz.ntmps98
    go_wp2_with fail
    go_end0
    exact ⟨rfl, by rw [RT.runes_nil, U.encs_nil, List.append_nil]; exact HB.out, Below.refl _ _, Lib.OthersKept.refl _ _ _⟩
  | node g rs a c iha ihc =>
    simp only [RT.blocks_node, List.mem_append, List.mem_cons, not_or] at htb
    simp only [RT.runes_node, bl_append] at hlen
    obtain ⟨c0, -, -, -, -, -, -, -, -, c9, c10, -⟩ := nodeV_cell ht.1
    have cl := ht.1.lt
    have cf := ht.1.frozen
    have v0 := hv.cell 0
    have vl := hv.lt
    simp only [List.getElem?_toArray, List.getElem?_cons_zero, walkV] at v0
    simp only [RT.ptr] at c9 c10
    rw [RT.ptr_node]
    have HT := Hd.mk ht
    have HV := Hd.mk hv
    have HB := Hd.mk hb
    have HTB := Hd.mk htb
    have HLN := Hd.mk hlen
    have HBW := Hd.mk hBw
    have IA := fun w1 (h1 : AtT w1 a) (h2 : Blk w1 v 187 #[walkV v b]) (h3 : Lib.IsBuilderF 186 5 B b (Lib.byteCells l) w1) (h4 : B ≤ w1.heap.size) => Hd.mk (iha (l := l) (w := w1) h1 h2 h3 htb.1 h4 (by omega))
    have IC := fun l1 w1 (h1 : AtT w1 c) (h2 : Blk w1 v 187 #[walkV v b]) (h3 : Lib.IsBuilderF 186 5 B b (Lib.byteCells l1) w1) (h4 : B ≤ w1.heap.size) (h5 : l1.length + bl c.runes ≤ 1000000) => Hd.mk (ihc (l := l1) (w := w1) h1 h2 h3 htb.2.2 h4 h5)
    have HRS : Hd ((U.encs rs).length = bl rs ∧ (U.encs a.runes).length = bl a.runes) := ⟨⟨rfl, rfl⟩⟩
    clear ht hv hb htb hlen hBw iha ihc
    go_enter Tryz.func98, Tryz.ntmps98
    go_wp2_with fail
    go_region_with (go_at_call 98; refine (IA w.drew (HT.out.2.1.below (ex_drew (Below.refl _ _))) HV.out HB.out HBW.out).out.mono ?_; rintro e w1 ⟨rfl, hb1, hbl1, hk1⟩; have hg1 := blk_keep HT.out.1 hk1 (Ne.symm HTB.out.2.1) (by decide); have hv1 := blk_keep HV.out hk1 hvb (by decide); obtain ⟨c0, -, -, -, -, -, -, -, -, c9, c10, -⟩ := nodeV_cell hg1; have cl := hg1.lt; have cf := hg1.frozen; have v0 := hv1.cell 0; have vl := hv1.lt; simp only [List.getElem?_toArray, List.getElem?_cons_zero, walkV] at v0; simp only [RT.ptr] at c9 c10; have HC1 := Hd.mk (HT.out.2.2.keep hk1 HTB.out.2.2); have HG1 := Hd.mk hg1; have HV1 := Hd.mk hv1; have HB1 := Hd.mk hb1; have HBL1 := Hd.mk ((Below.refl B w).drew.trans hbl1); have HK1 := Hd.mk ((Lib.OthersKept.refl _ _ w).drew.trans hk1); clear hg1 hv1 hb1 hbl1 hk1)
    all_goals
      go_wp2_with (go_at_call 99; refine (bwrite_calls B b (Lib.byteCells (l ++ U.encs a.runes)) ⟨(U.encs rs).toArray⟩ _ HB1.out (by rw [Lib.byteCells_length]; have := HLN.out; obtain ⟨q1, q2⟩ := HRS.out; simp only [ByteArray.size, List.size_toArray, List.length_append]; omega) (by have : w.heap.size ≤ w1.heap.size := HBL1.out.size; have := HBW.out; omega)).mono ?_; rintro e w2 ⟨rfl, hb2, hbl2, hk2⟩; have hg2 := blk_keep HG1.out hk2 (Ne.symm HTB.out.2.1) (by decide); have hv2 := blk_keep HV1.out hk2 hvb (by decide); obtain ⟨c0, -, -, -, -, -, -, -, -, c9, c10, -⟩ := nodeV_cell hg2; have cl := hg2.lt; have cf := hg2.frozen; have v0 := hv2.cell 0; have vl := hv2.lt; simp only [List.getElem?_toArray, List.getElem?_cons_zero, walkV] at v0; simp only [RT.ptr] at c9 c10; have HC2 := Hd.mk (HC1.out.keep hk2 HTB.out.2.2); have HV2 := Hd.mk hv2; rw [bcells, ← Lib.byteCells_append] at hb2; have HB2 := Hd.mk (.inr hb2 : Lib.IsBuilderF 186 5 B b (Lib.byteCells ((l ++ U.encs a.runes) ++ U.encs rs)) w2); have HBL2 := Hd.mk (HBL1.out.trans hbl2); have HK2 := Hd.mk (HK1.out.trans hk2); clear hg2 hv2 hb2 hbl2 hk2)
      go_region_with (go_at_call 98; refine (IC ((l ++ U.encs a.runes) ++ U.encs rs) w2.drew (HC2.out.below (ex_drew (Below.refl _ _))) HV2.out HB2.out (by have : w.heap.size ≤ w2.heap.size := HBL2.out.size; have := HBW.out; simp; omega) (by have := HLN.out; obtain ⟨q1, q2⟩ := HRS.out; simp only [List.length_append]; omega)).out.mono ?_; rintro e w3 ⟨rfl, hb3, hbl3, hk3⟩; have HB3 := Hd.mk hb3; have HBL3 := Hd.mk hbl3; have HK3 := Hd.mk hk3; clear hb3 hbl3 hk3)
      all_goals
        go_wp2_with fail
        go_end0
        refine ⟨rfl, ?_, HBL2.out.drew.trans HBL3.out, HK2.out.drew.trans HK3.out⟩
        have := HB3.out
        rw [RT.runes_node, U.encs_append, U.encs_append]
        simpa only [List.append_assoc] using this
theorem rtx_calls {p : Nat} {t : RT} {w : World} (h : AtR w p t) (hs : bl t.runes ≤ 1000000) :
    Calls Tryz.prog 55 #[.pointer (some ⟨p, 0, none⟩)] w fun e w' => e = .returned (.string ⟨(U.encs t.runes).toArray⟩) ∧ Below w.heap.size w w' := by
  have c0 := h.blk.cell 0
  have cl := h.blk.lt
  simp only [List.getElem?_toArray, List.getElem?_cons_zero, RT.ptr] at c0
  have HR := Hd.mk h
  have HLT := Hd.mk h.tree.lt
  have HS := Hd.mk hs
  clear h hs
  go_enter Tryz.func55, Tryz.ntmps55
  go_wp2_with fail
  have hB0 : Lib.IsBuilderF 186 5 w.heap.size w.heap.size (Lib.byteCells []) ((w.alloc (.cells #[.pointer none, .slice none 0 0] 186)).alloc (.cells #[walkV (w.heap.size + 1) w.heap.size] 187)) := (bnew w).alloc _
  have hV0 : Blk ((w.alloc (.cells #[.pointer none, .slice none 0 0] 186)).alloc (.cells #[walkV (w.heap.size + 1) w.heap.size] 187)) (w.heap.size + 1) 187 #[walkV (w.heap.size + 1) w.heap.size] := by
    have := Blk.new (w.alloc (.cells #[.pointer none, .slice none 0 0] 186)) 187 #[walkV (w.heap.size + 1) w.heap.size]
    rw [World.size_alloc] at this; exact this
  have HB0 := Hd.mk hB0
  have HV0 := Hd.mk hV0
  clear hB0 hV0
  go_region_with (go_at_call 98; refine (text1_calls (B := w.heap.size) (b := w.heap.size) (v := w.heap.size + 1) (t := t) (l := []) (HR.out.tree.below (ex_drew (ex_alloc (ex_alloc (Below.refl _ _) _) _))) HV0.out HB0.out (by omega) (fun e => by have := HLT.out _ e; omega) (by simp; omega) (by have := HS.out; simp; omega)).mono ?_; rintro e w3 ⟨rfl, hb3, hbl3, hk3⟩; have HB3 := Hd.mk hb3; have HBL3 := Hd.mk hbl3; have HK3 := Hd.mk hk3; clear hb3 hbl3 hk3)
  all_goals
    rw [List.nil_append] at HB3
    go_wp2_with (go_at_call 100; refine (bstring_calls w.heap.size w.heap.size (U.encs t.runes) _ HB3.out (by have := HBL3.out.size; simp at this; omega)).mono ?_; rintro e w4 ⟨rfl, -, hbl4, -⟩; have HBL4 := Hd.mk hbl4; clear hbl4)
    go_ret
    exact ⟨rfl, ((ex_drew (ex_alloc (ex_alloc (Below.refl _ _) _) _)).trans HBL3.out).trans HBL4.out⟩
end Go.Proofs.YtdgdajnbkfmijaaGreatDoor
