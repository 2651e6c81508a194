/- Several texts of the proof, one behind the other: RopeM, RopeA, RopeU. -/
import Derived.Test.YtgokmldngnmmhaaDoorMShapeAlike13
import Derived.Test.YtgokmldngnmmhaaDoorMShapeAlike16
import Derived.Deep.RegionHeld3
import Derived.Deep.RegionWith
/- A rope's tree: in Lean, and in memory. -/
namespace Go.Proofs.YtgokmldngnmmhaaDoor
open Go.RowKit
set_option maxRecDepth 100000
theorem cn_ext {x y : Cn} (h1 : x.b = y.b) (h2 : x.h = y.h) (h3 : x.r = y.r) (h4 : x.l = y.l) : x = y := by
  cases x; cases y; simp_all
theorem cnt_append (a b : List Int) : cnt (a ++ b) = (cnt a).add (cnt b) := by
  suffices h : ∀ n (b : List Int), b.length = n → cnt (a ++ b) = (cnt a).add (cnt b) from h _ b rfl
  intro n
  induction n with
  | zero =>
    intro b hb
    obtain rfl := List.length_eq_zero_iff.1 hb
    rw [List.append_nil]
    refine cn_ext ?_ ?_ ?_ ?_ <;> simp [Cn.add, cnt, Cn.zero]
  | succ n ih =>
    intro b hb
    obtain ⟨c, r, rfl⟩ : ∃ c r, b = c ++ [r] := by
      rcases List.eq_nil_or_concat b with rfl | ⟨c, r, rfl⟩
      · simp at hb
      · exact ⟨c, r, by simp⟩
    rw [← List.append_assoc, cnt_snoc, ih c (by simp at hb; omega), cnt_snoc]
    refine cn_ext ?_ ?_ ?_ ?_ <;> simp [Cn.add, Int.add_assoc]
theorem cnt_big {rs : List Int} (h : rs.length ≤ 1099511627776) : (cnt rs).In 2305843009213693952 := by
  obtain ⟨⟨b0, b1, h0, h1, r0, r1, l0, l1⟩, _, _⟩ := cnt_in rs
  exact ⟨b0, by omega, h0, by omega, r0, by omega, l0, by omega⟩
/-- A tree: each node with its block and the runes of its chunk. -/
inductive RT where
  | nil : RT
  | node (g : Nat) (rs : List Int) (l r : RT) : RT
namespace RT
def high : RT → Nat
  | nil => 0
  | node _ _ l r => 1 + max l.high r.high
def nodes : RT → List (Nat × List Int)
  | nil => []
  | node g rs l r => l.nodes ++ (g, rs) :: r.nodes
def runes : RT → List Int
  | nil => []
  | node _ rs l r => l.runes ++ rs ++ r.runes
def blocks (t : RT) : List Nat := t.nodes.map Prod.fst
def pa : RT → Option Addr
  | nil => none
  | node g _ _ _ => some ⟨g, 0, none⟩
def ptr (t : RT) : Value := .pointer t.pa
theorem ptr_nil : nil.ptr = .pointer none := rfl
theorem ptr_node (g : Nat) (rs : List Int) (l r : RT) : (node g rs l r).ptr = .pointer (some ⟨g, 0, none⟩) := rfl
@[simp] theorem high_nil : nil.high = 0 := rfl
@[simp] theorem high_node (g : Nat) (rs : List Int) (l r : RT) : (node g rs l r).high = 1 + max l.high r.high := rfl
@[simp] theorem nodes_nil : nil.nodes = [] := rfl
@[simp] theorem nodes_node (g : Nat) (rs : List Int) (l r : RT) : (node g rs l r).nodes = l.nodes ++ (g, rs) :: r.nodes := rfl
@[simp] theorem blocks_nil : nil.blocks = [] := rfl
@[simp] theorem blocks_node (g : Nat) (rs : List Int) (l r : RT) : (node g rs l r).blocks = l.blocks ++ g :: r.blocks := by simp [blocks]
@[simp] theorem runes_nil : nil.runes = [] := rfl
@[simp] theorem runes_node (g : Nat) (rs : List Int) (l r : RT) : (node g rs l r).runes = l.runes ++ rs ++ r.runes := rfl
theorem runes_nodes (t : RT) : t.runes = t.nodes.flatMap Prod.snd := by
  induction t with
  | nil => rfl
  | node g rs l r ihl ihr => simp [ihl, ihr]
theorem high_le (t : RT) : t.high ≤ t.nodes.length := by
  induction t with
  | nil => simp
  | node g rs l r ihl ihr => simp; omega
end RT
/-- The cells of a node. -/
def nodeV (rs : List Int) (all : Cn) (l r : Value) (h : Int) : Array Value :=
  #[.string ⟨(U.encs rs).toArray⟩, .int .i64 (cnt rs).b, .int .i64 (cnt rs).h, .int .i64 (cnt rs).r, .int .i64 (cnt rs).l, .int .i64 all.b, .int .i64 all.h, .int .i64 all.r, .int .i64 all.l, l, r, .int .i64 h]
/-- The tree in memory. -/
def AtT (w : World) : RT → Prop
  | .nil => True
  | .node g rs l r => Blk w g 177 (nodeV rs (cnt (l.runes ++ rs ++ r.runes)) l.ptr r.ptr ((1 + max l.high r.high : Nat) : Int)) ∧ AtT w l ∧ AtT w r
/-- .. whose root's counts and height are not right yet. -/
def RawT (w : World) (g : Nat) (rs : List Int) (l r : RT) : Prop :=
  (∃ all h, Blk w g 177 (nodeV rs all l.ptr r.ptr h)) ∧ AtT w l ∧ AtT w r
theorem AtT.raw {w : World} {g : Nat} {rs : List Int} {l r : RT} (h : AtT w (.node g rs l r)) : RawT w g rs l r := ⟨⟨_, _, h.1⟩, h.2⟩
theorem AtT.only {S : Nat → Prop} {w w' : World} {t : RT} (h : AtT w t) (ho : Only S w w') (hs : ∀ b ∈ t.blocks, ¬ S b) : AtT w' t := by
  induction t with
  | nil => trivial
  | node g rs l r ihl ihr =>
    simp only [RT.blocks_node, List.mem_append, List.mem_cons] at hs
    exact ⟨h.1.only ho (hs g (.inr (.inl rfl))), ihl h.2.1 (fun b hb => hs b (.inl hb)), ihr h.2.2 (fun b hb => hs b (.inr (.inr hb)))⟩
theorem AtT.below {w w' : World} {t : RT} (h : AtT w t) (hb : Below w.heap.size w w') : AtT w' t := h.only (Only.of_below (S := fun _ => False) hb) (fun _ _ h => h)
theorem AtT.lt {w : World} {t : RT} (h : AtT w t) : ∀ b ∈ t.blocks, b < w.heap.size := by
  induction t with
  | nil => simp
  | node g rs l r ihl ihr =>
    simp only [RT.blocks_node, List.mem_append, List.mem_cons]
    rintro b (hb | rfl | hb)
    · exact ihl h.2.1 b hb
    · exact h.1.lt
    · exact ihr h.2.2 b hb
theorem nodeV_cell {w : World} {g : Nat} {rs : List Int} {all : Cn} {l r : Value} {h : Int} (hb : Blk w g 177 (nodeV rs all l r h)) :
    w.cell? ⟨g, 0, none⟩ = some (.string ⟨(U.encs rs).toArray⟩) ∧ w.cell? ⟨g, 1, none⟩ = some (.int .i64 (cnt rs).b) ∧ w.cell? ⟨g, 2, none⟩ = some (.int .i64 (cnt rs).h) ∧ w.cell? ⟨g, 3, none⟩ = some (.int .i64 (cnt rs).r) ∧ w.cell? ⟨g, 4, none⟩ = some (.int .i64 (cnt rs).l) ∧
    w.cell? ⟨g, 5, none⟩ = some (.int .i64 all.b) ∧ w.cell? ⟨g, 6, none⟩ = some (.int .i64 all.h) ∧ w.cell? ⟨g, 7, none⟩ = some (.int .i64 all.r) ∧ w.cell? ⟨g, 8, none⟩ = some (.int .i64 all.l) ∧
    w.cell? ⟨g, 9, none⟩ = some l ∧ w.cell? ⟨g, 10, none⟩ = some r ∧ w.cell? ⟨g, 11, none⟩ = some (.int .i64 h) :=
  ⟨hb.cell 0, hb.cell 1, hb.cell 2, hb.cell 3, hb.cell 4, hb.cell 5, hb.cell 6, hb.cell 7, hb.cell 8, hb.cell 9, hb.cell 10, hb.cell 11⟩
end Go.Proofs.YtgokmldngnmmhaaDoor
/- high, all, fit, turnLeft, turnRight, level. -/
namespace Go.Proofs.YtgokmldngnmmhaaDoor
open Go.RowKit
set_option maxRecDepth 100000
theorem high_calls {t : RT} {w : World} (h : AtT w t) : Calls Tryd.prog 113 #[t.ptr] w fun e w' => e = .returned (.int .i64 t.high) ∧ Below w.heap.size w w' := by
  cases t with
  | nil =>
    rw [RT.ptr_nil]
    go_enter Tryd.func113, Tryd.ntmps113
    go_wp2_with fail
    go_ret
    exact ⟨rfl, Below.refl _ _⟩
  | node g rs l r =>
    have hc := nodeV_cell h.1
    have hl := h.1.lt
    have h11 := hc.2.2.2.2.2.2.2.2.2.2.2
    rw [RT.ptr_node]
    simp only [RT.high_node]
    generalize (1 + max l.high r.high) = m at *
    clear hc h
    go_enter Tryd.func113, Tryd.ntmps113
    go_wp2_with fail
    go_ret
    exact ⟨rfl, Below.refl _ _⟩
theorem all_calls {t : RT} {w : World} (h : AtT w t) : Calls Tryd.prog 111 #[t.ptr] w fun e w' => e = .returned (cnt t.runes).v ∧ Below w.heap.size w w' := by
  cases t with
  | nil =>
    rw [RT.ptr_nil]
    go_enter Tryd.func111, Tryd.ntmps111
    go_wp2_with fail
    refine bodyPost_ret (v := (cnt []).v) (by simp [results, Tryd.results111, go_sem, cnt, Cn.zero]) rfl ?_
    exact ⟨rfl, (by repeat (first | exact Below.refl _ _ | exact ex_drew (by assumption) | apply ex_drew | apply ex_drewN | apply ex_alloc | assumption))⟩
  | node g rs l r =>
    obtain ⟨-, -, -, -, -, h5, h6, h7, h8, -⟩ := nodeV_cell h.1
    have hl := h.1.lt
    rw [RT.ptr_node]
    simp only [RT.runes_node]
    generalize cnt (l.runes ++ rs ++ r.runes) = c at *
    clear h
    go_enter Tryd.func111, Tryd.ntmps111
    go_wp2_with fail
    refine bodyPost_ret (v := c.v) (by simp [results, Tryd.results111, go_sem]) rfl ?_
    exact ⟨rfl, (by repeat (first | exact Below.refl _ _ | exact ex_drew (by assumption) | apply ex_drew | apply ex_drewN | apply ex_alloc | assumption))⟩
/-- Bounds of a tree. -/
structure Sm (rs : List Int) (n : Nat) : Prop where
  len : rs.length ≤ 1099511627776
  many : n ≤ 1099511627776
/-- A node whose root is being made right. -/
def FS (w : World) (g : Nat) (rs : List Int) (lp rp : Value) (p : Cn → Prop) (w' : World) : Prop := Only (fun k => k = g) w w' ∧ ∃ c m, p c ∧ Blk w' g 177 (nodeV rs c lp rp m)
/-- What a cell holds. -/
def cv (w : World) (g i : Nat) : Value := (w.cell? ⟨g, i, none⟩).getD undef
theorem cv_of {w : World} {g i : Nat} {v : Value} (h : w.cell? ⟨g, i, none⟩ = some v) : w.cell? ⟨g, i, none⟩ = some (cv w g i) := by unfold cv; rw [h]; rfl
/-- .. and what is read of it. -/
abbrev FSx (w : World) (g : Nat) (rs : List Int) (lp rp : Value) (p : Cn → Prop) (w' : World) : Prop := FS w g rs lp rp p w' ∧ w'.cell? ⟨g, 1, none⟩ = some (.int .i64 (cnt rs).b) ∧ w'.cell? ⟨g, 2, none⟩ = some (.int .i64 (cnt rs).h) ∧
  w'.cell? ⟨g, 3, none⟩ = some (.int .i64 (cnt rs).r) ∧ w'.cell? ⟨g, 4, none⟩ = some (.int .i64 (cnt rs).l) ∧ w'.cell? ⟨g, 9, none⟩ = some lp ∧ w'.cell? ⟨g, 10, none⟩ = some rp ∧ g < w'.heap.size ∧
  w'.cell? ⟨g, 5, none⟩ = some (cv w' g 5) ∧ w'.cell? ⟨g, 6, none⟩ = some (cv w' g 6) ∧ w'.cell? ⟨g, 7, none⟩ = some (cv w' g 7) ∧ w'.cell? ⟨g, 8, none⟩ = some (cv w' g 8) ∧ w'.cell? ⟨g, 11, none⟩ = some (cv w' g 11) ∧
  ∀ i, w'.frozen? ⟨g, i, none⟩ = false
section
variable {w w1 w2 : World} {g : Nat} {rs : List Int} {lp rp : Value} {p : Cn → Prop}
theorem FS.x (h : FS w g rs lp rp p w1) : FSx w g rs lp rp p w1 := by
  obtain ⟨ho, c, m, hp, hb⟩ := h
  obtain ⟨-, h1, h2, h3, h4, h5, h6, h7, h8, h9, h10, h11⟩ := nodeV_cell hb
  exact ⟨⟨ho, c, m, hp, hb⟩, h1, h2, h3, h4, h9, h10, hb.lt, cv_of h5, cv_of h6, cv_of h7, cv_of h8, cv_of h11, hb.frozen⟩
theorem FSx.drew (h : FSx w g rs lp rp p w1) : FSx w g rs lp rp p w1.drew := FS.x ⟨h.1.1.drew, h.1.2⟩
theorem FSx.call (h : FSx w g rs lp rp p w1) (hb : Below w1.heap.size w1 w2) : FSx w g rs lp rp p w2 := by
  obtain ⟨⟨ho, c, m, hp, hk⟩, -⟩ := h
  exact FS.x ⟨ho.then_below hb, c, m, hp, hk.below hb hk.lt⟩
theorem FSx.all (h : FSx w g rs lp rp p w1) {q : Cn → Prop} {x : Cn} (hq : q x) : FSx w g rs lp rp q ((((w1.setCell ⟨g, 5, none⟩ (.int .i64 x.b)).setCell ⟨g, 6, none⟩ (.int .i64 x.h)).setCell ⟨g, 7, none⟩ (.int .i64 x.r)).setCell ⟨g, 8, none⟩ (.int .i64 x.l)) := by
  obtain ⟨⟨ho, c, m, hp, hk⟩, -⟩ := h
  exact FS.x ⟨(((ho.setCell (p := ⟨g, 5, none⟩) (.inl rfl) _).setCell (p := ⟨g, 6, none⟩) (.inl rfl) _).setCell (p := ⟨g, 7, none⟩) (.inl rfl) _).setCell (p := ⟨g, 8, none⟩) (.inl rfl) _, x, m, hq, (((hk.set_ 5 _).set_ 6 _).set_ 7 _).set_ 8 _⟩
theorem FSx.high (h : FSx w g rs lp rp p w1) (x : Int) : FSx w g rs lp rp p (w1.setCell ⟨g, 11, none⟩ (.int .i64 x)) ∧ ∃ c, p c ∧ Blk (w1.setCell ⟨g, 11, none⟩ (.int .i64 x)) g 177 (nodeV rs c lp rp x) := by
  obtain ⟨⟨ho, c, m, hp, hk⟩, -⟩ := h
  have := hk.set_ 11 (.int .i64 x)
  exact ⟨FS.x ⟨ho.setCell (p := ⟨g, 11, none⟩) (.inl rfl) _, c, x, hp, this⟩, c, hp, this⟩
theorem FSx.tree {t : RT} (h : FSx w g rs lp rp p w1) (ht : AtT w t) (hg : g ∉ t.blocks) : AtT w1 t := ht.only h.1.1 (fun _ hb e => hg (e ▸ hb))
end
set_option maxHeartbeats 1000000 in
theorem fit_calls {g : Nat} {rs : List Int} {l r : RT} {w : World} (h : RawT w g rs l r) (hgl : g ∉ l.blocks) (hgr : g ∉ r.blocks) (hb : Sm (l.runes ++ rs ++ r.runes) (l.nodes.length + r.nodes.length)) :
    Calls Tryd.prog 141 #[.pointer (some ⟨g, 0, none⟩)] w fun e w' => e = .returned (.pointer (some ⟨g, 0, none⟩)) ∧ AtT w' (.node g rs l r) ∧ Only (fun k => k = g) w w' := by
  obtain ⟨⟨c, m, hblk⟩, hl, hr⟩ := h
  have HL := Hd.mk hl
  have HR := Hd.mk hr
  have HGL := Hd.mk hgl
  have HGR := Hd.mk hgr
  have HS0 : Hd (FSx w g rs l.ptr r.ptr (fun _ => True) w) := ⟨FS.x ⟨Only.refl _ _, c, m, trivial, hblk⟩⟩
  have hlen := hb.len
  simp only [List.length_append] at hlen
  have HL1 : Hd ((cnt l.runes).In 2305843009213693952) := ⟨cnt_big (by omega)⟩
  have HL2 : Hd ((cnt rs).In 2305843009213693952) := ⟨cnt_big (by omega)⟩
  have HL3 : Hd ((cnt r.runes).In 2305843009213693952) := ⟨cnt_big (by omega)⟩
  have HL4 : Hd (((cnt l.runes).add (cnt rs)).In 2305843009213693952) := ⟨by rw [← cnt_append]; exact cnt_big (by simp; omega)⟩
  have HCA : Hd (((cnt l.runes).add (cnt rs)).add (cnt r.runes) = cnt (l.runes ++ rs ++ r.runes)) := ⟨by rw [cnt_append, cnt_append]⟩
  have hh1 := l.high_le
  have hh2 := r.high_le
  have hm := hb.many
  clear hl hr hblk hgl hgr hb hlen
  obtain ⟨s0, s1, s2, s3, s4, s9, s10, slt, s5, s6, s7, s8, s11, sf⟩ := HS0.out
  clear s0
  go_enter Tryd.func141, Tryd.ntmps141
  go_wp2_with fail
  go_region_held3 (fun w' => FS w g rs l.ptr r.ptr (fun _ => True) w' ∧ w'.cell? ⟨g, 1, none⟩ = some (.int .i64 (cnt rs).b) ∧ w'.cell? ⟨g, 2, none⟩ = some (.int .i64 (cnt rs).h) ∧
  w'.cell? ⟨g, 3, none⟩ = some (.int .i64 (cnt rs).r) ∧ w'.cell? ⟨g, 4, none⟩ = some (.int .i64 (cnt rs).l) ∧ w'.cell? ⟨g, 9, none⟩ = some l.ptr ∧ w'.cell? ⟨g, 10, none⟩ = some r.ptr ∧ g < w'.heap.size ∧
  w'.cell? ⟨g, 5, none⟩ = some (cv w' g 5) ∧ w'.cell? ⟨g, 6, none⟩ = some (cv w' g 6) ∧ w'.cell? ⟨g, 7, none⟩ = some (cv w' g 7) ∧ w'.cell? ⟨g, 8, none⟩ = some (cv w' g 8) ∧ w'.cell? ⟨g, 11, none⟩ = some (cv w' g 11) ∧
  ∀ i, w'.frozen? ⟨g, i, none⟩ = false)
    (first | exact HS0.out.drew | exact FSx.call (by assumption) (by assumption) | exact FSx.all (by assumption) trivial | assumption)
    (first
      | (go_at_call_of 111 (RT.ptr l); refine (all_calls (t := l) ?_).mono ?_; exact FSx.tree (by assumption) HL.out HGL.out; rintro e w' ⟨rfl, hb'⟩)
      | (go_at_call_of 111 (RT.ptr r); refine (all_calls (t := r) ?_).mono ?_; exact FSx.tree (by assumption) HR.out HGR.out; rintro e w' ⟨rfl, hb'⟩)
      | (go_at_call_of 25 (cnt r.runes); refine (plus_calls ((cnt l.runes).add (cnt rs)) (cnt r.runes) _ HL4.out HL3.out).mono ?_; rintro e w' ⟨rfl, hb'⟩)
      | (go_at_call_of 25 (cnt rs); refine (plus_calls (cnt l.runes) (cnt rs) _ HL1.out HL2.out).mono ?_; rintro e w' ⟨rfl, hb'⟩))
  have HX := Hd.mk (FSx.all (q := fun c => c = cnt (l.runes ++ rs ++ r.runes)) (((HS0.out.drew.call (by assumption)).call (by assumption)).call (by assumption) |>.call hb') HCA.out)
  generalize ((((w'.setCell ⟨g, 5, none⟩ (.int .i64 (((cnt l.runes).add (cnt rs)).add (cnt r.runes)).b)).setCell ⟨g, 6, none⟩ (.int .i64 (((cnt l.runes).add (cnt rs)).add (cnt r.runes)).h)).setCell ⟨g, 7, none⟩ (.int .i64 (((cnt l.runes).add (cnt rs)).add (cnt r.runes)).r)).setCell ⟨g, 8, none⟩ (.int .i64 (((cnt l.runes).add (cnt rs)).add (cnt r.runes)).l)) = wp at HX ⊢
  clear s1 s2 s3 s4 s9 s10 slt s5 s6 s7 s8 s11 sf hb'
  obtain ⟨s0, s1, s2, s3, s4, s9, s10, slt, s5, s6, s7, s8, s11, sf⟩ := HX.out
  clear s0
  go_wp2_with fail
  go_region_held3 (fun w' => FS w g rs l.ptr r.ptr (fun c => c = cnt (l.runes ++ rs ++ r.runes)) w' ∧ w'.cell? ⟨g, 1, none⟩ = some (.int .i64 (cnt rs).b) ∧ w'.cell? ⟨g, 2, none⟩ = some (.int .i64 (cnt rs).h) ∧ w'.cell? ⟨g, 3, none⟩ = some (.int .i64 (cnt rs).r) ∧ w'.cell? ⟨g, 4, none⟩ = some (.int .i64 (cnt rs).l) ∧ w'.cell? ⟨g, 9, none⟩ = some l.ptr ∧ w'.cell? ⟨g, 10, none⟩ = some r.ptr ∧ g < w'.heap.size ∧ w'.cell? ⟨g, 5, none⟩ = some (cv w' g 5) ∧ w'.cell? ⟨g, 6, none⟩ = some (cv w' g 6) ∧ w'.cell? ⟨g, 7, none⟩ = some (cv w' g 7) ∧ w'.cell? ⟨g, 8, none⟩ = some (cv w' g 8) ∧ w'.cell? ⟨g, 11, none⟩ = some (cv w' g 11) ∧ ∀ i, w'.frozen? ⟨g, i, none⟩ = false)
    (first | exact HX.out.drew | exact FSx.call (by assumption) (by assumption) | exact (FSx.high (by assumption) _).1 | assumption)
    (first
      | (go_at_call_of 113 (RT.ptr l); refine (high_calls (t := l) ?_).mono ?_; exact FSx.tree (by assumption) HL.out HGL.out; rintro e w' ⟨rfl, hb'⟩)
      | (go_at_call_of 113 (RT.ptr r); refine (high_calls (t := r) ?_).mono ?_; exact FSx.tree (by assumption) HR.out HGR.out; rintro e w' ⟨rfl, hb'⟩))
  have HY := Hd.mk (FSx.high ((HX.out.drew.call (by assumption)).call hb') (IntKind.i64.wrap (1 + if l.high < r.high then (r.high : Int) else (l.high : Int))))
  have hmx : IntKind.i64.wrap (1 + if l.high < r.high then (r.high : Int) else (l.high : Int)) = ((1 + max l.high r.high : Nat) : Int) := by
    rw [IntKind.wrap_i64] <;> split <;> omega
  generalize (w'.setCell ⟨g, 11, none⟩ (.int .i64 (IntKind.i64.wrap (1 + if l.high < r.high then (r.high : Int) else (l.high : Int))))) = wq at HY ⊢
  clear s1 s2 s3 s4 s9 s10 slt s5 s6 s7 s8 s11 sf hb'
  have HMX := Hd.mk hmx
  clear hmx
  generalize (if l.high < r.high then (r.high : Int) else (l.high : Int)) = mx at *
  go_wp2_with fail
  go_ret
  obtain ⟨⟨⟨ho, -⟩, -⟩, c', rfl, hk⟩ := HY.out
  rw [HMX.out] at hk
  exact ⟨rfl, ⟨hk, HL.out.only ho (fun b hb e => HGL.out (e ▸ hb)), HR.out.only ho (fun b hb e => HGR.out (e ▸ hb))⟩, ho⟩
end Go.Proofs.YtgokmldngnmmhaaDoor
/- Places in runes, by a unit, and by lines. Plain. -/
namespace Go.Proofs.YtgokmldngnmmhaaDoor
theorem of_add (x y : Cn) (u : Int) : (x.add y).of u = x.of u + y.of u := by
  unfold Cn.of Cn.add
  repeat' split
  all_goals simp
theorem of_zero (u : Int) : Cn.zero.of u = 0 := by
  unfold Cn.of Cn.zero
  repeat' split
  all_goals rfl
theorem cnt_nil : cnt [] = Cn.zero := rfl
theorem cnt_one (r : Int) : cnt [r] = oneC r (U.wid r) := by
  have := cnt_snoc [] r
  simp only [List.nil_append] at this
  rw [this, cnt_nil]
  unfold Cn.add Cn.zero
  refine cn_ext ?_ ?_ ?_ ?_ <;> simp
theorem of_one (r : Int) {u : Int} (hu : 1 ≤ u ∧ u ≤ 3) : 1 ≤ (oneC r (U.wid r)).of u := by
  have := U.wid_pos r
  obtain rfl | rfl | rfl : u = 1 ∨ u = 2 ∨ u = 3 := by omega
  all_goals simp only [Cn.of, oneC]
  · simp; omega
  · simp; split <;> omega
  · simp
theorem of_len (rs : List Int) {u : Int} (hu : 1 ≤ u ∧ u ≤ 3) : (rs.length : Int) ≤ (cnt rs).of u := by
  induction rs with
  | nil => rw [cnt_nil, of_zero]; simp
  | cons r rs ih =>
    have e : r :: rs = [r] ++ rs := rfl
    rw [e, cnt_append, of_add, cnt_one]
    have := of_one r hu
    simp; omega
theorem of_nn (rs : List Int) (u : Int) : 0 ≤ (cnt rs).of u := by
  obtain ⟨⟨b0, b1, h0, h1, r0, r1, l0, l1⟩, -, -⟩ := cnt_in rs
  unfold Cn.of
  repeat' split
  all_goals omega
theorem l_nn (rs : List Int) : 0 ≤ (cnt rs).l := by
  obtain ⟨⟨b0, b1, h0, h1, r0, r1, l0, l1⟩, -, -⟩ := cnt_in rs
  exact l0
theorem cnt_app_of (a b : List Int) (u : Int) : (cnt (a ++ b)).of u = (cnt a).of u + (cnt b).of u := by rw [cnt_append, of_add]
theorem cnt_app_l (a b : List Int) : (cnt (a ++ b)).l = (cnt a).l + (cnt b).l := by rw [cnt_append]; rfl
theorem cnt_one_l (r : Int) : (cnt [r]).l = if r = 10 then 1 else 0 := by rw [cnt_one]; rfl
/-- A place, by a unit, of runes. -/
def Pl (u at_ : Int) (R : List Int) (c : Cn) : Prop := ∃ p q, R = p ++ q ∧ (cnt p).of u = at_ ∧ c = cnt p
/-- Two parts ahead, by a unit in order: the one begins the other. -/
theorem pre_le {p q p' q' : List Int} (h : p ++ q = p' ++ q') : (∃ d, p' = p ++ d ∧ q = d ++ q') ∨ (∃ d, p = p' ++ d ∧ q' = d ++ q) := by
  rcases List.append_eq_append_iff.1 h with ⟨c, h1, h2⟩ | ⟨c, h1, h2⟩
  · exact .inl ⟨c, h1, h2⟩
  · exact .inr ⟨c, h1, h2⟩
theorem pre_unique {p q p' q' : List Int} {u : Int} (hu : 1 ≤ u ∧ u ≤ 3) (h : p ++ q = p' ++ q') (e : (cnt p).of u = (cnt p').of u) : p = p' ∧ q = q' := by
  rcases pre_le h with ⟨d, h1, h2⟩ | ⟨d, h1, h2⟩
  · rw [h1, cnt_app_of] at e
    have := of_len d hu
    have : d = [] := List.eq_nil_of_length_eq_zero (by omega)
    subst this
    simp at h1 h2; exact ⟨h1.symm, h2⟩
  · rw [h1, cnt_app_of] at e
    have := of_len d hu
    have : d = [] := List.eq_nil_of_length_eq_zero (by omega)
    subst this
    simp at h1 h2; exact ⟨h1, h2.symm⟩
theorem Pl.unique {u at_ : Int} {R : List Int} {c c' : Cn} (hu : 1 ≤ u ∧ u ≤ 3) (h : Pl u at_ R c) (h' : Pl u at_ R c') : c = c' := by
  obtain ⟨p, q, e1, e2, rfl⟩ := h
  obtain ⟨p', q', e1', e2', rfl⟩ := h'
  rw [(pre_unique hu (e1.symm.trans e1') (e2.trans e2'.symm)).1]
theorem Pl.range {u at_ : Int} {R : List Int} {c : Cn} (h : Pl u at_ R c) : 0 ≤ at_ ∧ at_ ≤ (cnt R).of u := by
  obtain ⟨p, q, rfl, rfl, rfl⟩ := h
  rw [cnt_app_of]
  have := of_nn p u
  have := of_nn q u
  omega
/-- Within a rune there is no place. -/
theorem no_pl {p q : List Int} {r u at_ : Int} {c : Cn} (_hu : 1 ≤ u ∧ u ≤ 3) (h1 : (cnt p).of u < at_) (h2 : at_ < (cnt (p ++ [r])).of u) : ¬ Pl u at_ (p ++ r :: q) c := by
  rintro ⟨p', q', e1, e2, -⟩
  have e : p ++ r :: q = (p ++ [r]) ++ q := by simp
  rcases pre_le e1 with ⟨d, h3, h4⟩ | ⟨d, h3, h4⟩
  · cases d with
    | nil => simp at h3; subst h3; omega
    | cons y d =>
      simp only [List.cons_append, List.cons.injEq] at h4
      obtain ⟨rfl, h5⟩ := h4
      have : p' = (p ++ [r]) ++ d := by rw [h3]; simp
      rw [this, cnt_app_of] at e2
      have := of_nn d u
      omega
  · rw [h3, cnt_app_of] at h1
    have := of_nn d u
    omega
/-- Where a line begins. -/
def Ln (n : Int) (R : List Int) (c : Cn) : Prop := ∃ p q, R = p ++ q ∧ (cnt p).l = n ∧ c = cnt p ∧ (p = [] ∨ ∃ p', p = p' ++ [10])
theorem Ln.unique {n : Int} {R : List Int} {c c' : Cn} (h : Ln n R c) (h' : Ln n R c') : c = c' := by
  obtain ⟨p, q, e1, e2, rfl, e3⟩ := h
  obtain ⟨p', q', e1', e2', rfl, e3'⟩ := h'
  suffices hh : p = p' by rw [hh]
  have key : ∀ (p d : List Int), (cnt (p ++ d)).l = (cnt p).l → (p ++ d = [] ∨ ∃ p', p ++ d = p' ++ [10]) → d = [] := by
    intro p d h1 h2
    rcases List.eq_nil_or_concat d with rfl | ⟨d', y, rfl⟩
    · rfl
    · rcases h2 with h2 | ⟨p', h2⟩
      · simp at h2
      · exfalso
        have e : p ++ (d' ++ [y]) = (p ++ d') ++ [y] := by simp
        simp only [List.concat_eq_append] at h1 h2
        rw [e] at h2
        have hy := (List.append_inj' h2 rfl).2
        simp at hy
        subst hy
        rw [cnt_app_l, cnt_app_l, cnt_one_l] at h1
        have := l_nn d'
        simp at h1
        omega
  rcases pre_le (e1.symm.trans e1') with ⟨d, h1, h2⟩ | ⟨d, h1, h2⟩
  · have := key p d (by rw [← h1, e2, e2']) (by rw [← h1]; exact e3')
    subst this; simpa using h1.symm
  · have := key p' d (by rw [← h1, e2, e2']) (by rw [← h1]; exact e3)
    subst this; simpa using h1
end Go.Proofs.YtgokmldngnmmhaaDoor
