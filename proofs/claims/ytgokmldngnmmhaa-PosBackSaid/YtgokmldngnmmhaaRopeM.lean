/- A rope's tree: in Lean, and in memory. -/
import Derived.Test.YtgokmldngnmmhaaUtfK
import Derived.Test.YtgokmldngnmmhaaOnlyL
namespace Go.Proofs.Ytgokmldngnmmhaa
open Go.RowKit
set_option maxRecDepth 100000
theorem cn_ext {x y : Cn} (h1 : x.b = y.b) (h2 : x.h = y.h) (h3 : x.r = y.r) (h4 : x.l = y.l) : x = y := by
  cases x; cases y; simp_all
theorem cnt_append (a b : List Int) : cnt (a ++ b) = (cnt a).add (cnt b) := by
  suffices h : ∀ n (b : List Int), b.length = n → cnt (a ++ b) = (cnt a).add (cnt b) from h _ b rfl
  intro n
  induction n with
  | zero =>
    intro b hb
    obtain rfl := List.length_eq_zero_iff.1 hb
    rw [List.append_nil]
    refine cn_ext ?_ ?_ ?_ ?_ <;> simp [Cn.add, cnt, Cn.zero]
  | succ n ih =>
    intro b hb
    obtain ⟨c, r, rfl⟩ : ∃ c r, b = c ++ [r] := by
      rcases List.eq_nil_or_concat b with rfl | ⟨c, r, rfl⟩
      · simp at hb
      · exact ⟨c, r, by simp⟩
    rw [← List.append_assoc, cnt_snoc, ih c (by simp at hb; omega), cnt_snoc]
    refine cn_ext ?_ ?_ ?_ ?_ <;> simp [Cn.add, Int.add_assoc]
theorem cnt_big {rs : List Int} (h : rs.length ≤ 1099511627776) : (cnt rs).In 2305843009213693952 := by
  obtain ⟨⟨b0, b1, h0, h1, r0, r1, l0, l1⟩, _, _⟩ := cnt_in rs
  exact ⟨b0, by omega, h0, by omega, r0, by omega, l0, by omega⟩
/-- A tree: each node with its block and the runes of its chunk. -/
inductive RT where
  | nil : RT
  | node (g : Nat) (rs : List Int) (l r : RT) : RT
namespace RT
def high : RT → Nat
  | nil => 0
  | node _ _ l r => 1 + max l.high r.high
def nodes : RT → List (Nat × List Int)
  | nil => []
  | node g rs l r => l.nodes ++ (g, rs) :: r.nodes
def runes : RT → List Int
  | nil => []
  | node _ rs l r => l.runes ++ rs ++ r.runes
def blocks (t : RT) : List Nat := t.nodes.map Prod.fst
def pa : RT → Option Addr
  | nil => none
  | node g _ _ _ => some ⟨g, 0, none⟩
def ptr (t : RT) : Value := .pointer t.pa
theorem ptr_nil : nil.ptr = .pointer none := rfl
theorem ptr_node (g : Nat) (rs : List Int) (l r : RT) : (node g rs l r).ptr = .pointer (some ⟨g, 0, none⟩) := rfl
@[simp] theorem high_nil : nil.high = 0 := rfl
@[simp] theorem high_node (g : Nat) (rs : List Int) (l r : RT) : (node g rs l r).high = 1 + max l.high r.high := rfl
@[simp] theorem nodes_nil : nil.nodes = [] := rfl
@[simp] theorem nodes_node (g : Nat) (rs : List Int) (l r : RT) : (node g rs l r).nodes = l.nodes ++ (g, rs) :: r.nodes := rfl
@[simp] theorem blocks_nil : nil.blocks = [] := rfl
@[simp] theorem blocks_node (g : Nat) (rs : List Int) (l r : RT) : (node g rs l r).blocks = l.blocks ++ g :: r.blocks := by simp [blocks]
@[simp] theorem runes_nil : nil.runes = [] := rfl
@[simp] theorem runes_node (g : Nat) (rs : List Int) (l r : RT) : (node g rs l r).runes = l.runes ++ rs ++ r.runes := rfl
theorem runes_nodes (t : RT) : t.runes = t.nodes.flatMap Prod.snd := by
  induction t with
  | nil => rfl
  | node g rs l r ihl ihr => simp [ihl, ihr]
theorem high_le (t : RT) : t.high ≤ t.nodes.length := by
  induction t with
  | nil => simp
  | node g rs l r ihl ihr => simp; omega
end RT
/-- The cells of a node. -/
def nodeV (rs : List Int) (all : Cn) (l r : Value) (h : Int) : Array Value :=
  #[.string ⟨(U.encs rs).toArray⟩, .int .i64 (cnt rs).b, .int .i64 (cnt rs).h, .int .i64 (cnt rs).r, .int .i64 (cnt rs).l, .int .i64 all.b, .int .i64 all.h, .int .i64 all.r, .int .i64 all.l, l, r, .int .i64 h]
/-- The tree in memory. -/
def AtT (w : World) : RT → Prop
  | .nil => True
  | .node g rs l r => Blk w g 54 (nodeV rs (cnt (l.runes ++ rs ++ r.runes)) l.ptr r.ptr ((1 + max l.high r.high : Nat) : Int)) ∧ AtT w l ∧ AtT w r
/-- .. whose root's counts and height are not right yet. -/
def RawT (w : World) (g : Nat) (rs : List Int) (l r : RT) : Prop :=
  (∃ all h, Blk w g 54 (nodeV rs all l.ptr r.ptr h)) ∧ AtT w l ∧ AtT w r
theorem AtT.raw {w : World} {g : Nat} {rs : List Int} {l r : RT} (h : AtT w (.node g rs l r)) : RawT w g rs l r := ⟨⟨_, _, h.1⟩, h.2⟩
theorem AtT.only {S : Nat → Prop} {w w' : World} {t : RT} (h : AtT w t) (ho : Only S w w') (hs : ∀ b ∈ t.blocks, ¬ S b) : AtT w' t := by
  induction t with
  | nil => trivial
  | node g rs l r ihl ihr =>
    simp only [RT.blocks_node, List.mem_append, List.mem_cons] at hs
    exact ⟨h.1.only ho (hs g (.inr (.inl rfl))), ihl h.2.1 (fun b hb => hs b (.inl hb)), ihr h.2.2 (fun b hb => hs b (.inr (.inr hb)))⟩
theorem AtT.below {w w' : World} {t : RT} (h : AtT w t) (hb : Below w.heap.size w w') : AtT w' t := h.only (Only.of_below (S := fun _ => False) hb) (fun _ _ h => h)
theorem AtT.lt {w : World} {t : RT} (h : AtT w t) : ∀ b ∈ t.blocks, b < w.heap.size := by
  induction t with
  | nil => simp
  | node g rs l r ihl ihr =>
    simp only [RT.blocks_node, List.mem_append, List.mem_cons]
    rintro b (hb | rfl | hb)
    · exact ihl h.2.1 b hb
    · exact h.1.lt
    · exact ihr h.2.2 b hb
theorem nodeV_cell {w : World} {g : Nat} {rs : List Int} {all : Cn} {l r : Value} {h : Int} (hb : Blk w g 54 (nodeV rs all l r h)) :
    w.cell? ⟨g, 0, none⟩ = some (.string ⟨(U.encs rs).toArray⟩) ∧ w.cell? ⟨g, 1, none⟩ = some (.int .i64 (cnt rs).b) ∧ w.cell? ⟨g, 2, none⟩ = some (.int .i64 (cnt rs).h) ∧ w.cell? ⟨g, 3, none⟩ = some (.int .i64 (cnt rs).r) ∧ w.cell? ⟨g, 4, none⟩ = some (.int .i64 (cnt rs).l) ∧
    w.cell? ⟨g, 5, none⟩ = some (.int .i64 all.b) ∧ w.cell? ⟨g, 6, none⟩ = some (.int .i64 all.h) ∧ w.cell? ⟨g, 7, none⟩ = some (.int .i64 all.r) ∧ w.cell? ⟨g, 8, none⟩ = some (.int .i64 all.l) ∧
    w.cell? ⟨g, 9, none⟩ = some l ∧ w.cell? ⟨g, 10, none⟩ = some r ∧ w.cell? ⟨g, 11, none⟩ = some (.int .i64 h) :=
  ⟨hb.cell 0, hb.cell 1, hb.cell 2, hb.cell 3, hb.cell 4, hb.cell 5, hb.cell 6, hb.cell 7, hb.cell 8, hb.cell 9, hb.cell 10, hb.cell 11⟩
end Go.Proofs.Ytgokmldngnmmhaa
