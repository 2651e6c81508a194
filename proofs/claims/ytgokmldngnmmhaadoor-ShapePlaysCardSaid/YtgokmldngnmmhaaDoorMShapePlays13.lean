/- Several texts of the proof, one behind the other: RopeM, RopeU, AsF, PtEq, PartO. -/
import Derived.Test.YtgokmldngnmmhaaDoorMShapePlays8
import Derived.Test.YtgokmldngnmmhaaDoorMShapePlays1
import Derived.Test.YtgokmldngnmmhaaDoorMShapePlays6
import Derived.LaidEql
import Derived.Stop.Asserts
import Derived.RowKitTokens
import Derived.Test.YtgokmldngnmmhaaDoorMShapePlays3
import Derived.Laws.StructEq
import Derived.Test.YtgokmldngnmmhaaDoorRows
import Derived.Deep.Slices
import Derived.ChangeArms
/- A rope's tree: in Lean, and in memory. -/
namespace Go.Proofs.YtgokmldngnmmhaaDoor
open Go.RowKit
set_option maxRecDepth 100000
theorem cn_ext {x y : Cn} (h1 : x.b = y.b) (h2 : x.h = y.h) (h3 : x.r = y.r) (h4 : x.l = y.l) : x = y := by
  cases x; cases y; simp_all
theorem cnt_append (a b : List Int) : cnt (a ++ b) = (cnt a).add (cnt b) := by
  suffices h : ∀ n (b : List Int), b.length = n → cnt (a ++ b) = (cnt a).add (cnt b) from h _ b rfl
  intro n
  induction n with
  | zero =>
    intro b hb
    obtain rfl := List.length_eq_zero_iff.1 hb
    rw [List.append_nil]
    refine cn_ext ?_ ?_ ?_ ?_ <;> simp [Cn.add, cnt, Cn.zero]
  | succ n ih =>
    intro b hb
    obtain ⟨c, r, rfl⟩ : ∃ c r, b = c ++ [r] := by
      rcases List.eq_nil_or_concat b with rfl | ⟨c, r, rfl⟩
      · simp at hb
      · exact ⟨c, r, by simp⟩
    rw [← List.append_assoc, cnt_snoc, ih c (by simp at hb; omega), cnt_snoc]
    refine cn_ext ?_ ?_ ?_ ?_ <;> simp [Cn.add, Int.add_assoc]
theorem cnt_big {rs : List Int} (h : rs.length ≤ 1099511627776) : (cnt rs).In 2305843009213693952 := by
  obtain ⟨⟨b0, b1, h0, h1, r0, r1, l0, l1⟩, _, _⟩ := cnt_in rs
  exact ⟨b0, by omega, h0, by omega, r0, by omega, l0, by omega⟩
/-- A tree: each node with its block and the runes of its chunk. -/
inductive RT where
  | nil : RT
  | node (g : Nat) (rs : List Int) (l r : RT) : RT
namespace RT
def high : RT → Nat
  | nil => 0
  | node _ _ l r => 1 + max l.high r.high
def nodes : RT → List (Nat × List Int)
  | nil => []
  | node g rs l r => l.nodes ++ (g, rs) :: r.nodes
def runes : RT → List Int
  | nil => []
  | node _ rs l r => l.runes ++ rs ++ r.runes
def blocks (t : RT) : List Nat := t.nodes.map Prod.fst
def pa : RT → Option Addr
  | nil => none
  | node g _ _ _ => some ⟨g, 0, none⟩
def ptr (t : RT) : Value := .pointer t.pa
theorem ptr_nil : nil.ptr = .pointer none := rfl
theorem ptr_node (g : Nat) (rs : List Int) (l r : RT) : (node g rs l r).ptr = .pointer (some ⟨g, 0, none⟩) := rfl
@[simp] theorem high_nil : nil.high = 0 := rfl
@[simp] theorem high_node (g : Nat) (rs : List Int) (l r : RT) : (node g rs l r).high = 1 + max l.high r.high := rfl
@[simp] theorem nodes_nil : nil.nodes = [] := rfl
@[simp] theorem nodes_node (g : Nat) (rs : List Int) (l r : RT) : (node g rs l r).nodes = l.nodes ++ (g, rs) :: r.nodes := rfl
@[simp] theorem blocks_nil : nil.blocks = [] := rfl
@[simp] theorem blocks_node (g : Nat) (rs : List Int) (l r : RT) : (node g rs l r).blocks = l.blocks ++ g :: r.blocks := by simp [blocks]
@[simp] theorem runes_nil : nil.runes = [] := rfl
@[simp] theorem runes_node (g : Nat) (rs : List Int) (l r : RT) : (node g rs l r).runes = l.runes ++ rs ++ r.runes := rfl
theorem runes_nodes (t : RT) : t.runes = t.nodes.flatMap Prod.snd := by
  induction t with
  | nil => rfl
  | node g rs l r ihl ihr => simp [ihl, ihr]
theorem high_le (t : RT) : t.high ≤ t.nodes.length := by
  induction t with
  | nil => simp
  | node g rs l r ihl ihr => simp; omega
end RT
/-- The cells of a node. -/
def nodeV (rs : List Int) (all : Cn) (l r : Value) (h : Int) : Array Value :=
  #[.string ⟨(U.encs rs).toArray⟩, .int .i64 (cnt rs).b, .int .i64 (cnt rs).h, .int .i64 (cnt rs).r, .int .i64 (cnt rs).l, .int .i64 all.b, .int .i64 all.h, .int .i64 all.r, .int .i64 all.l, l, r, .int .i64 h]
/-- The tree in memory. -/
def AtT (w : World) : RT → Prop
  | .nil => True
  | .node g rs l r => Blk w g 177 (nodeV rs (cnt (l.runes ++ rs ++ r.runes)) l.ptr r.ptr ((1 + max l.high r.high : Nat) : Int)) ∧ AtT w l ∧ AtT w r
/-- .. whose root's counts and height are not right yet. -/
def RawT (w : World) (g : Nat) (rs : List Int) (l r : RT) : Prop :=
  (∃ all h, Blk w g 177 (nodeV rs all l.ptr r.ptr h)) ∧ AtT w l ∧ AtT w r
theorem AtT.raw {w : World} {g : Nat} {rs : List Int} {l r : RT} (h : AtT w (.node g rs l r)) : RawT w g rs l r := ⟨⟨_, _, h.1⟩, h.2⟩
theorem AtT.only {S : Nat → Prop} {w w' : World} {t : RT} (h : AtT w t) (ho : Only S w w') (hs : ∀ b ∈ t.blocks, ¬ S b) : AtT w' t := by
  induction t with
  | nil => trivial
  | node g rs l r ihl ihr =>
    simp only [RT.blocks_node, List.mem_append, List.mem_cons] at hs
    exact ⟨h.1.only ho (hs g (.inr (.inl rfl))), ihl h.2.1 (fun b hb => hs b (.inl hb)), ihr h.2.2 (fun b hb => hs b (.inr (.inr hb)))⟩
theorem AtT.below {w w' : World} {t : RT} (h : AtT w t) (hb : Below w.heap.size w w') : AtT w' t := h.only (Only.of_below (S := fun _ => False) hb) (fun _ _ h => h)
theorem AtT.lt {w : World} {t : RT} (h : AtT w t) : ∀ b ∈ t.blocks, b < w.heap.size := by
  induction t with
  | nil => simp
  | node g rs l r ihl ihr =>
    simp only [RT.blocks_node, List.mem_append, List.mem_cons]
    rintro b (hb | rfl | hb)
    · exact ihl h.2.1 b hb
    · exact h.1.lt
    · exact ihr h.2.2 b hb
theorem nodeV_cell {w : World} {g : Nat} {rs : List Int} {all : Cn} {l r : Value} {h : Int} (hb : Blk w g 177 (nodeV rs all l r h)) :
    w.cell? ⟨g, 0, none⟩ = some (.string ⟨(U.encs rs).toArray⟩) ∧ w.cell? ⟨g, 1, none⟩ = some (.int .i64 (cnt rs).b) ∧ w.cell? ⟨g, 2, none⟩ = some (.int .i64 (cnt rs).h) ∧ w.cell? ⟨g, 3, none⟩ = some (.int .i64 (cnt rs).r) ∧ w.cell? ⟨g, 4, none⟩ = some (.int .i64 (cnt rs).l) ∧
    w.cell? ⟨g, 5, none⟩ = some (.int .i64 all.b) ∧ w.cell? ⟨g, 6, none⟩ = some (.int .i64 all.h) ∧ w.cell? ⟨g, 7, none⟩ = some (.int .i64 all.r) ∧ w.cell? ⟨g, 8, none⟩ = some (.int .i64 all.l) ∧
    w.cell? ⟨g, 9, none⟩ = some l ∧ w.cell? ⟨g, 10, none⟩ = some r ∧ w.cell? ⟨g, 11, none⟩ = some (.int .i64 h) :=
  ⟨hb.cell 0, hb.cell 1, hb.cell 2, hb.cell 3, hb.cell 4, hb.cell 5, hb.cell 6, hb.cell 7, hb.cell 8, hb.cell 9, hb.cell 10, hb.cell 11⟩
end Go.Proofs.YtgokmldngnmmhaaDoor
/- Places in runes, by a unit, and by lines. Plain. -/
namespace Go.Proofs.YtgokmldngnmmhaaDoor
theorem of_add (x y : Cn) (u : Int) : (x.add y).of u = x.of u + y.of u := by
  unfold Cn.of Cn.add
  repeat' split
  all_goals simp
theorem of_zero (u : Int) : Cn.zero.of u = 0 := by
  unfold Cn.of Cn.zero
  repeat' split
  all_goals rfl
theorem cnt_nil : cnt [] = Cn.zero := rfl
theorem cnt_one (r : Int) : cnt [r] = oneC r (U.wid r) := by
  have := cnt_snoc [] r
  simp only [List.nil_append] at this
  rw [this, cnt_nil]
  unfold Cn.add Cn.zero
  refine cn_ext ?_ ?_ ?_ ?_ <;> simp
theorem of_one (r : Int) {u : Int} (hu : 1 ≤ u ∧ u ≤ 3) : 1 ≤ (oneC r (U.wid r)).of u := by
  have := U.wid_pos r
  obtain rfl | rfl | rfl : u = 1 ∨ u = 2 ∨ u = 3 := by omega
  all_goals simp only [Cn.of, oneC]
  · simp; omega
  · simp; split <;> omega
  · simp
theorem of_len (rs : List Int) {u : Int} (hu : 1 ≤ u ∧ u ≤ 3) : (rs.length : Int) ≤ (cnt rs).of u := by
  induction rs with
  | nil => rw [cnt_nil, of_zero]; simp
  | cons r rs ih =>
    have e : r :: rs = [r] ++ rs := rfl
    rw [e, cnt_append, of_add, cnt_one]
    have := of_one r hu
    simp; omega
theorem of_nn (rs : List Int) (u : Int) : 0 ≤ (cnt rs).of u := by
  obtain ⟨⟨b0, b1, h0, h1, r0, r1, l0, l1⟩, -, -⟩ := cnt_in rs
  unfold Cn.of
  repeat' split
  all_goals omega
theorem l_nn (rs : List Int) : 0 ≤ (cnt rs).l := by
  obtain ⟨⟨b0, b1, h0, h1, r0, r1, l0, l1⟩, -, -⟩ := cnt_in rs
  exact l0
theorem cnt_app_of (a b : List Int) (u : Int) : (cnt (a ++ b)).of u = (cnt a).of u + (cnt b).of u := by rw [cnt_append, of_add]
theorem cnt_app_l (a b : List Int) : (cnt (a ++ b)).l = (cnt a).l + (cnt b).l := by rw [cnt_append]; rfl
theorem cnt_one_l (r : Int) : (cnt [r]).l = if r = 10 then 1 else 0 := by rw [cnt_one]; rfl
/-- A place, by a unit, of runes. -/
def Pl (u at_ : Int) (R : List Int) (c : Cn) : Prop := ∃ p q, R = p ++ q ∧ (cnt p).of u = at_ ∧ c = cnt p
/-- Two parts ahead, by a unit in order: the one begins the other. -/
theorem pre_le {p q p' q' : List Int} (h : p ++ q = p' ++ q') : (∃ d, p' = p ++ d ∧ q = d ++ q') ∨ (∃ d, p = p' ++ d ∧ q' = d ++ q) := by
  rcases List.append_eq_append_iff.1 h with ⟨c, h1, h2⟩ | ⟨c, h1, h2⟩
  · exact .inl ⟨c, h1, h2⟩
  · exact .inr ⟨c, h1, h2⟩
theorem pre_unique {p q p' q' : List Int} {u : Int} (hu : 1 ≤ u ∧ u ≤ 3) (h : p ++ q = p' ++ q') (e : (cnt p).of u = (cnt p').of u) : p = p' ∧ q = q' := by
  rcases pre_le h with ⟨d, h1, h2⟩ | ⟨d, h1, h2⟩
  · rw [h1, cnt_app_of] at e
    have := of_len d hu
    have : d = [] := List.eq_nil_of_length_eq_zero (by omega)
    subst this
    simp at h1 h2; exact ⟨h1.symm, h2⟩
  · rw [h1, cnt_app_of] at e
    have := of_len d hu
    have : d = [] := List.eq_nil_of_length_eq_zero (by omega)
    subst this
    simp at h1 h2; exact ⟨h1, h2.symm⟩
theorem Pl.unique {u at_ : Int} {R : List Int} {c c' : Cn} (hu : 1 ≤ u ∧ u ≤ 3) (h : Pl u at_ R c) (h' : Pl u at_ R c') : c = c' := by
  obtain ⟨p, q, e1, e2, rfl⟩ := h
  obtain ⟨p', q', e1', e2', rfl⟩ := h'
  rw [(pre_unique hu (e1.symm.trans e1') (e2.trans e2'.symm)).1]
theorem Pl.range {u at_ : Int} {R : List Int} {c : Cn} (h : Pl u at_ R c) : 0 ≤ at_ ∧ at_ ≤ (cnt R).of u := by
  obtain ⟨p, q, rfl, rfl, rfl⟩ := h
  rw [cnt_app_of]
  have := of_nn p u
  have := of_nn q u
  omega
/-- Within a rune there is no place. -/
theorem no_pl {p q : List Int} {r u at_ : Int} {c : Cn} (_hu : 1 ≤ u ∧ u ≤ 3) (h1 : (cnt p).of u < at_) (h2 : at_ < (cnt (p ++ [r])).of u) : ¬ Pl u at_ (p ++ r :: q) c := by
  rintro ⟨p', q', e1, e2, -⟩
  have e : p ++ r :: q = (p ++ [r]) ++ q := by simp
  rcases pre_le e1 with ⟨d, h3, h4⟩ | ⟨d, h3, h4⟩
  · cases d with
    | nil => simp at h3; subst h3; omega
    | cons y d =>
      simp only [List.cons_append, List.cons.injEq] at h4
      obtain ⟨rfl, h5⟩ := h4
      have : p' = (p ++ [r]) ++ d := by rw [h3]; simp
      rw [this, cnt_app_of] at e2
      have := of_nn d u
      omega
  · rw [h3, cnt_app_of] at h1
    have := of_nn d u
    omega
/-- Where a line begins. -/
def Ln (n : Int) (R : List Int) (c : Cn) : Prop := ∃ p q, R = p ++ q ∧ (cnt p).l = n ∧ c = cnt p ∧ (p = [] ∨ ∃ p', p = p' ++ [10])
theorem Ln.unique {n : Int} {R : List Int} {c c' : Cn} (h : Ln n R c) (h' : Ln n R c') : c = c' := by
  obtain ⟨p, q, e1, e2, rfl, e3⟩ := h
  obtain ⟨p', q', e1', e2', rfl, e3'⟩ := h'
  suffices hh : p = p' by rw [hh]
  have key : ∀ (p d : List Int), (cnt (p ++ d)).l = (cnt p).l → (p ++ d = [] ∨ ∃ p', p ++ d = p' ++ [10]) → d = [] := by
    intro p d h1 h2
    rcases List.eq_nil_or_concat d with rfl | ⟨d', y, rfl⟩
    · rfl
    · rcases h2 with h2 | ⟨p', h2⟩
      · simp at h2
      · exfalso
        have e : p ++ (d' ++ [y]) = (p ++ d') ++ [y] := by simp
        simp only [List.concat_eq_append] at h1 h2
        rw [e] at h2
        have hy := (List.append_inj' h2 rfl).2
        simp at hy
        subst hy
        rw [cnt_app_l, cnt_app_l, cnt_one_l] at h1
        have := l_nn d'
        simp at h1
        omega
  rcases pre_le (e1.symm.trans e1') with ⟨d, h1, h2⟩ | ⟨d, h1, h2⟩
  · have := key p d (by rw [← h1, e2, e2']) (by rw [← h1]; exact e3')
    subst this; simpa using h1.symm
  · have := key p' d (by rw [← h1, e2, e2']) (by rw [← h1]; exact e3)
    subst this; simpa using h1
end Go.Proofs.YtgokmldngnmmhaaDoor
/- errors.As at the target *api.Errno, by its contracts: closed facts on the model's entries for internal/reflectlite at this program's types. After the guide's worked example ToyasAs. -/
namespace Go.Proofs.YtgokmldngnmmhaaDoor
open Go.RowKit Go.Extern.Stop Go.Stop Go.Extern
set_option maxRecDepth 100000
theorem as_valueOfP (t : Addr) (w : World) : (ReflectliteValue.unpack (.iface 191 (.pointer (some t)))).run Tryd.prog w
    = .ok (.agg #[.pointer (some ⟨2, 191, none⟩), .pointer (some ⟨w.heap.size, 0, none⟩), .int .u64 150]) (w.alloc (.cells #[.pointer (some t)] 191)) := by kernel_rfl
theorem as_typeP (a : Addr) (w : World) : (ReflectliteValue.methodAny (ReflectliteValue.valueError "reflectlite.Value.Type" 0) (fun t _ _ _ => ReflectliteType.toType t) #[.agg #[.pointer (some ⟨2, 191, none⟩), .pointer (some a), .int .u64 150]]).run Tryd.prog w
    = .ok (.iface 224 (.agg #[.pointer (some ⟨2, 191, none⟩)])) w := by kernel_rfl
theorem as_methodKind (h : Value) (w : World) : (Go.method 364 224 (.agg #[h]) "Kind").run Tryd.prog w = .ok (166, h) w := by kernel_rfl
theorem as_methodElem (h : Value) (w : World) : (Go.method 364 224 (.agg #[h]) "Elem").run Tryd.prog w = .ok (179, .agg #[h]) w := by kernel_rfl
theorem as_methodImplements (h : Value) (w : World) : (Go.method 364 224 (.agg #[h]) "Implements").run Tryd.prog w = .ok (180, .agg #[h]) w := by kernel_rfl
theorem as_methodAssignableTo (h : Value) (w : World) : (Go.method 364 224 (.agg #[h]) "AssignableTo").run Tryd.prog w = .ok (177, .agg #[h]) w := by kernel_rfl
theorem as_kindP (w : World) : ((ReflectliteType.abiMethod fun t => (fun a : Nat => Value.int IntKind.u8 (a : Int)) <$> Rtype.kind t) #[.pointer (some ⟨2, 191, none⟩)]).run Tryd.prog w = .ok (.int .u8 22) w := by kernel_rfl
theorem as_kindE (w : World) : ((ReflectliteType.abiMethod fun t => (fun a : Nat => Value.int IntKind.u8 (a : Int)) <$> Rtype.kind t) #[.pointer (some ⟨2, 23, none⟩)]).run Tryd.prog w = .ok (.int .u8 2) w := by kernel_rfl
theorem rlm (z : Sem Value) (f : TypeId → Addr → Nat → Nat → Sem Value) (v : Value) :
    ReflectliteValue.method z f #[v] = (do match ← ReflectliteValue.parts v with | none => z | some (t, a, fl) => f t a fl (fl % 32)) := rfl
theorem as_partsP (a : Addr) (w : World) : (ReflectliteValue.parts (.agg #[.pointer (some ⟨2, 191, none⟩), .pointer (some a), .int .u64 150])).run Tryd.prog w = .ok (some (191, a, 150)) w := by kernel_rfl
theorem as_isNilP (a p : Addr) (W : World) (ha : W.cell? a = some (.pointer (some p))) :
    (ReflectliteValue.method (ReflectliteValue.valueError "reflectlite.Value.IsNil" 0) ReflectliteValue.isNil #[.agg #[.pointer (some ⟨2, 191, none⟩), .pointer (some a), .int .u64 150]]).run Tryd.prog W = .ok (.bool false) W := by
  rw [rlm]
  simp only [Sem.run_bind, as_partsP, Result.andThen]
  simp [ReflectliteValue.isNil, loadVar, isAgg, underlying, Tryd.underlying191, ha, Result.andThen]
theorem as_elemT (w : World) : (ReflectliteType.method ReflectliteType.elem #[.agg #[.pointer (some ⟨2, 191, none⟩)]]).run Tryd.prog w = .ok (.iface 224 (.agg #[.pointer (some ⟨2, 23, none⟩)])) w := by kernel_rfl
theorem as_implements (w : World) : (ReflectliteType.relation "Implements" ReflectliteType.implements_ #[.agg #[.pointer (some ⟨2, 23, none⟩)], .iface 224 (.agg #[.pointer (some ⟨2, 29, none⟩)])]).run Tryd.prog w = .ok (.bool true) w := by kernel_rfl
theorem as_typeOfE (v : Value) (w : World) : (ReflectliteType.typeOf #[.iface 23 v]).run Tryd.prog w = .ok (.iface 224 (.agg #[.pointer (some ⟨2, 23, none⟩)])) w := by kernel_rfl
theorem as_typeOfA (v : Value) (w : World) : (ReflectliteType.typeOf #[.iface 126 v]).run Tryd.prog w = .ok (.iface 224 (.agg #[.pointer (some ⟨2, 126, none⟩)])) w := by kernel_rfl
theorem as_assignableE (w : World) : (ReflectliteType.relation "AssignableTo" ReflectliteType.assignableTo #[.agg #[.pointer (some ⟨2, 23, none⟩)], .iface 224 (.agg #[.pointer (some ⟨2, 23, none⟩)])]).run Tryd.prog w = .ok (.bool true) w := by kernel_rfl
theorem as_assignableA (w : World) : (ReflectliteType.relation "AssignableTo" ReflectliteType.assignableTo #[.agg #[.pointer (some ⟨2, 126, none⟩)], .iface 224 (.agg #[.pointer (some ⟨2, 23, none⟩)])]).run Tryd.prog w = .ok (.bool false) w := by kernel_rfl
theorem as_valueOfE (e : Int) (w : World) : (ReflectliteValue.unpack (.iface 23 (.int .i64 e))).run Tryd.prog w
    = .ok (.agg #[.pointer (some ⟨2, 23, none⟩), .pointer (some ⟨w.heap.size, 0, none⟩), .int .u64 130]) (w.alloc (.cells #[.int .i64 e] 23)) := by kernel_rfl
theorem as_elemOfP (w : World) : (Rtype.elem? 191).run Tryd.prog w = .ok (some 23) w := by kernel_rfl
theorem as_mkE (p : Addr) (w : World) : (ReflectliteValue.mk 23 p ReflectliteValue.flagAddr).run Tryd.prog w = .ok (.agg #[.pointer (some ⟨2, 23, none⟩), .pointer (some p), .int .u64 386]) w := by kernel_rfl
theorem as_elemV (a p : Addr) (W : World) (ha : W.cell? a = some (.pointer (some p))) :
    (ReflectliteValue.method (ReflectliteValue.valueError "reflectlite.Value.Elem" 0) ReflectliteValue.elem #[.agg #[.pointer (some ⟨2, 191, none⟩), .pointer (some a), .int .u64 150]]).run Tryd.prog W
      = .ok (.agg #[.pointer (some ⟨2, 23, none⟩), .pointer (some p), .int .u64 386]) W := by
  rw [rlm]
  simp only [Sem.run_bind, as_partsP, Result.andThen]
  simp [ReflectliteValue.elem, loadVar, isAgg, underlying, Tryd.underlying191, ha, Result.andThen, as_elemOfP, as_mkE]
theorem rls (v x : Value) : ReflectliteValue.set #[v, x] = (do
    let (some (dst, a, fl), some (src, b, _)) := (← ReflectliteValue.parts v, ← ReflectliteValue.parts x)
      | unsupported (.noEntry "extern/(internal/reflectlite.Value).Set.zeroValue")
    if fl / ReflectliteValue.flagAddr % 2 == 0 then unsupported (.noEntry "extern/(internal/reflectlite.Value).Set.unaddressable")
    let val ← loadVar src b
    if ← Rtype.directlyAssignable dst src then storeVar dst a val
    else if ← Rtype.implements dst src then
      if (← Rtype.kind src) == 20 then
        match val with
        | .nilIface => unsupported (.noEntry "extern/reflectlite: a nil value of one interface type handed on as a value of another")
        | _ => storeVar dst a val
      else storeVar dst a (.iface src val)
    else panicString ("reflectlite.Set: value of type " ++ (← Rtype.spelt src) ++ " is not assignable to type " ++ (← Rtype.spelt dst))
    pure (.tuple #[])) := rfl
theorem as_partsEa (a : Addr) (w : World) : (ReflectliteValue.parts (.agg #[.pointer (some ⟨2, 23, none⟩), .pointer (some a), .int .u64 386])).run Tryd.prog w = .ok (some (23, a, 386)) w := by kernel_rfl
theorem as_partsE (a : Addr) (w : World) : (ReflectliteValue.parts (.agg #[.pointer (some ⟨2, 23, none⟩), .pointer (some a), .int .u64 130])).run Tryd.prog w = .ok (some (23, a, 130)) w := by kernel_rfl
theorem as_direct (w : World) : (Rtype.directlyAssignable 23 23).run Tryd.prog w = .ok true w := by kernel_rfl
theorem as_set (ta b : Addr) (e : Int) (old : Value) (W : World) (hb : W.cell? b = some (.int .i64 e)) (ht : W.cell? ta = some old) (hf : W.frozen? ta = false) :
    (ReflectliteValue.set #[.agg #[.pointer (some ⟨2, 23, none⟩), .pointer (some ta), .int .u64 386], .agg #[.pointer (some ⟨2, 23, none⟩), .pointer (some b), .int .u64 130]]).run Tryd.prog W
      = .ok (.tuple #[]) (W.setCell ta (.int .i64 e)) := by
  rw [rls]
  simp only [Sem.run_bind, as_partsEa, as_partsE, Result.andThen]
  simp [ReflectliteValue.flagAddr, loadVar, isAgg, underlying, Tryd.underlying23, hb, Result.andThen, as_direct, storeVar, Value.cells, storeCells, Addr.add]
  rw [run_store Tryd.prog W ta _ _ (by rfl)]
  simp [ht, hf]
end Go.Proofs.YtgokmldngnmmhaaDoor
/- '==' of a part with itself. -/
namespace Go.Proofs.YtgokmldngnmmhaaDoor
open Go.RowKit
set_option maxRecDepth 100000
theorem pt_guard : Tryd.prog.eqGuardType Tryd.prog.depth 111 = false := by kernel_rfl
theorem pt_held : Tryd.prog.stoodInHeld 111 = false := by kernel_rfl
theorem pt_fields : Tryd.prog.underlying 111 = some (.struct (Tryd.prog.fieldsOf 111)) := by kernel_rfl
theorem pt_list : (Tryd.prog.fieldsOf 111).toList.map (fun f => (f.name, f.type, f.offset)) = [("Keep", 3, 0), ("Drop", 3, 1), ("Put", 9, 2)] := by kernel_rfl
theorem three_of_map {α β : Type} (f : α → β) {l : List α} {a b c : β} (h : l.map f = [a, b, c]) : ∃ x0 x1 x2, l = [x0, x1, x2] ∧ f x0 = a ∧ f x1 = b ∧ f x2 = c := by
  match l, h with
  | [], h => simp at h
  | [_], h => simp at h
  | [_, _], h => simp at h
  | [x0, x1, x2], h =>
    simp only [List.map_cons, List.map_nil, List.cons.injEq, and_true] at h
    exact ⟨x0, x1, x2, rfl, h.1, h.2.1, h.2.2⟩
  | _ :: _ :: _ :: _ :: _, h => simp at h
theorem pt_list3 : ∃ f0 f1 f2, (Tryd.prog.fieldsOf 111).toList = [f0, f1, f2] ∧ (f0.name, f0.type, f0.offset) = ("Keep", 3, 0) ∧ (f1.name, f1.type, f1.offset) = ("Drop", 3, 1) ∧ (f2.name, f2.type, f2.offset) = ("Put", 9, 2) := by
  exact three_of_map _ pt_list
theorem pt_part0 (a b : Int) (c : ByteArray) (w : World) : (part 3 #[.int .i64 a, .int .i64 b, .string c] 0).run Tryd.prog w = .ok (.int .i64 a) w := by kernel_rfl
theorem pt_part1 (a b : Int) (c : ByteArray) (w : World) : (part 3 #[.int .i64 a, .int .i64 b, .string c] 1).run Tryd.prog w = .ok (.int .i64 b) w := by kernel_rfl
theorem pt_part2 (a b : Int) (c : ByteArray) (w : World) : (part 9 #[.int .i64 a, .int .i64 b, .string c] 2).run Tryd.prog w = .ok (.string c) w := by kernel_rfl
theorem pt_eqIn (x : PT) (w : World) : (Op.equalIn 10000 111 x.v x.v).run Tryd.prog w = .ok true w := by
  unfold PT.v
  rw [show (10000 : Nat) = 9999 + 1 from rfl, run_equalIn_struct w _ _ _ _ pt_fields pt_held]
  obtain ⟨f0, f1, f2, hl, h0, h1, h2⟩ := pt_list3
  simp only [Prod.mk.injEq] at h0 h1 h2
  rw [hl]
  have hi : ∀ (a b : Int) (w : World), (Op.equalIn 9999 3 (.int .i64 a) (.int .i64 b)).run Tryd.prog w = .ok (a == b) w := fun a b w => run_equalIn_int w 9998 _ _ _ _ _ Tryd.underlying3
  have hs : ∀ (a b : ByteArray) (w : World), (Op.equalIn 9999 9 (.string a) (.string b)).run Tryd.prog w = .ok (a.toList == b.toList) w := fun a b w => run_equalIn_string w 9998 _ _ _ Tryd.underlying9
  simp only [Op.eqFields, h0.1, h0.2.1, h0.2.2, h1.1, h1.2.1, h1.2.2, h2.1, h2.2.1, h2.2.2]
  simp [pt_part0, pt_part1, pt_part2, hi, hs, Result.andThen]
theorem pt_neq (x : PT) (w : World) : (binOp .neq 111 x.v x.v).run Tryd.prog w = .ok (.bool false) w := by
  have h := pt_eqIn x w
  unfold PT.v at h ⊢
  rw [run_neq_struct, h]; rfl
theorem pt_eqGuard (op : BinOp) (p q : Operand) (xs ys : Array Value) (w : World) : (eqGuard op 111 p q (.agg xs) (.agg ys)).run Tryd.prog w = .ok () w := run_eqGuard_agg w op _ p q xs ys pt_guard
end Go.Proofs.YtgokmldngnmmhaaDoor
/- An argument that is an operation, opened: a list of parts; and what the bound on its bulk gives. -/
namespace Go.Proofs.YtgokmldngnmmhaaDoor
open Go.ChangeShapes Go.WideShapes Go.ChangeAt Go.RowKit
set_option maxRecDepth 100000
theorem pt_cellsOf : Tryd.prog.cellsOf 111 = 3 := by kernel_rfl
theorem int_cellsOf : Tryd.prog.cellsOf 3 = 1 := by kernel_rfl
theorem str_cellsOf : Tryd.prog.cellsOf 9 = 1 := by kernel_rfl
/-- A part as data. -/
def PT.dat {H : Type} (p : PT) : DataW H := .agg [.lit (.int .i64 p.keep), .lit (.int .i64 p.drop), .lit (.string p.put)]
structure PT.In (p : PT) : Prop where
  k : -9223372036854775808 ≤ p.keep ∧ p.keep ≤ 9223372036854775807
  d : -9223372036854775808 ≤ p.drop ∧ p.drop ≤ 9223372036854775807
  s : p.put.length ≤ maxLen
theorem wf_i64 {n : Int} (h : (Lit.int .i64 n).wf = true) : -9223372036854775808 ≤ n ∧ n ≤ 9223372036854775807 := by
  simp [Lit.wf, IntKind.min, IntKind.max, IntKind.signed, IntKind.bits] at h
  omega
section
variable {H : Type} {enc : TypeId × Value → H} {w : World} {base : Nat} {sp : Nat → Bool} {held : Bool}
theorem open_part {n : Nat} {cs : List Value} {x : DataW H × List MemPlace} (h : DataW.trod enc Tryd.prog w base sp held n 111 cs = some x) :
    ∃ p : PT, cs = p.cells ∧ x.1 = p.dat ∧ p.In := by
  obtain ⟨xs, n', _, rfl, hcs, hxs, hf⟩ := DataW.trod_struct pt_fields h
  rw [pt_cellsOf] at hcs
  obtain ⟨f0, f1, f2, hl, h0, h1, h2⟩ := pt_list3
  simp only [Prod.mk.injEq] at h0 h1 h2
  have hsz : (Tryd.prog.fieldsOf 111).size = 3 := by rw [← Array.length_toList, hl]; rfl
  rw [hsz] at hxs
  have g : ∀ i f, [f0, f1, f2][i]? = some f → (Tryd.prog.fieldsOf 111)[i]? = some f := fun i f hi => by rw [← Array.getElem?_toList, hl]; exact hi
  match cs, hcs, xs, hxs with
  | [c0, c1, c2], _, [x0, x1, x2], _ =>
    have e0 := hf 0 f0 (g 0 f0 rfl)
    have e1 := hf 1 f1 (g 1 f1 rfl)
    have e2 := hf 2 f2 (g 2 f2 rfl)
    rw [h0.2.1, h0.2.2, int_cellsOf] at e0
    rw [h1.2.1, h1.2.2, int_cellsOf] at e1
    rw [h2.2.1, h2.2.2, str_cellsOf] at e2
    obtain ⟨a, a1, rfl, a3⟩ := DataW.trod_int Tryd.underlying3 e0
    obtain ⟨b, b1, rfl, b3⟩ := DataW.trod_int Tryd.underlying3 e1
    obtain ⟨s, s1, rfl, s3⟩ := DataW.trod_string Tryd.underlying9 e2
    simp at a1 b1 s1
    subst a1 b1 s1
    exact ⟨⟨a, b, s.data.toList⟩, by simp [PT.cells], rfl, wf_i64 a3, wf_i64 b3, s3⟩
theorem open_parts {r : Reach} {b0 : Nat} {v : Value} {d : DataW H} {ps : List MemPlace}
    (hval : Value.okWide Tryd.prog w r b0 52 v) (hd : DataW.Trod enc Tryd.prog w base (fun _ => true) true 52 v d ps) :
    ∃ (n : Nat) (l : List PT), Sl w 3 v n (opv l) ∧ l.length = n ∧ (∀ p ∈ l, p.In) ∧ (l = [] ∨ ∃ spare, d = .slice (l.map PT.dat) spare) := by
  obtain ⟨a0, len, cap, rfl⟩ := okWide_slice Tryd.underlying52 hval
  obtain ⟨fuel, hf⟩ := hd
  rcases Go.Deep.open_slice Tryd.underlying52 hf with ⟨hcs, hx⟩ | ⟨a, len', cap', m, n, D, Pl, hcs, _, hl, hm, hmm, hx, hi⟩
  · simp [Value.cells] at hcs
    obtain ⟨rfl, rfl, rfl⟩ := hcs
    exact ⟨0, [], Sl.nil w 3, rfl, fun p hp => by simp at hp, .inl rfl⟩
  · simp [Value.cells] at hcs
    obtain ⟨rfl, rfl, rfl⟩ := hcs
    simp only [if_true] at hmm
    subst hmm
    rw [pt_cellsOf] at hi
    have hpt : ∀ i, ∃ p : PT, i < len → (∀ j u, p.cells[j]? = some u → w.cell? (a.add (i * 3 + j)) = some u) ∧ D i = p.dat ∧ p.In := by
      intro i
      by_cases h : i < len
      · obtain ⟨cs', hc, ht⟩ := hi i (by omega)
        obtain ⟨p, rfl, hx, hin⟩ := open_part ht
        obtain ⟨_, _, hat⟩ := World.cells?_some hc
        refine ⟨p, fun _ => ⟨fun j u hu => ?_, hx, hin⟩⟩
        have hj : j < 3 := by
          rcases Nat.lt_or_ge j 3 with h | h
          · exact h
          · rw [List.getElem?_eq_none (by simpa using h)] at hu; cases hu
        rw [← add_of_add, hat j hj, hu]
      · exact ⟨⟨0, 0, []⟩, fun h' => absurd h' h⟩
    obtain ⟨f, hf'⟩ := Classical.axiomOfChoice hpt
    refine ⟨len, (List.range len).map f, ⟨some a, _, rfl, by rw [opv_length]; simp, hl, hm, (fun h => nomatch h), fun hn => ⟨a, rfl, ?_, ?_⟩⟩, by simp, ?_, ?_⟩
    · have h1 := (hf' 0 hn).1 0 _ rfl
      have := World.block_lt_of_cell? w _ h1
      rw [block_of_add] at this
      exact this
    · intro j u hu
      have hj : j < len * 3 := by
        rcases Nat.lt_or_ge j (len * 3) with h | h
        · exact h
        · rw [List.getElem?_eq_none (by rw [opv_length]; simpa using h)] at hu; cases hu
      have hk : j / 3 < ((List.range len).map f).length := by simp; omega
      obtain ⟨o0, o1, o2⟩ := opv_at hk
      have hg : ((List.range len).map f)[j / 3] = f (j / 3) := by simp
      rw [hg] at o0 o1 o2
      obtain ⟨hc, _, _⟩ := hf' (j / 3) (by omega)
      have hr : j % 3 = 0 ∨ j % 3 = 1 ∨ j % 3 = 2 := by omega
      rcases hr with hr | hr | hr
      · rw [show j = 3 * (j / 3) from by omega, o0] at hu
        have := hc 0 u (by simpa using hu)
        rwa [show j / 3 * 3 + 0 = j from by omega] at this
      · rw [show j = 3 * (j / 3) + 1 from by omega, o1] at hu
        have := hc 1 u (by simpa using hu)
        rwa [show j / 3 * 3 + 1 = j from by omega] at this
      · rw [show j = 3 * (j / 3) + 2 from by omega, o2] at hu
        have := hc 2 u (by simpa using hu)
        rwa [show j / 3 * 3 + 2 = j from by omega] at this
    · intro p hp
      obtain ⟨i, hi', rfl⟩ := List.mem_map.1 hp
      exact (hf' i (List.mem_range.1 hi')).2.2
    · right
      simp only [Prod.mk.injEq] at hx
      refine ⟨(List.range (m - len)).map fun j => D (len + j), hx.1.trans ?_⟩
      rw [List.map_map, List.map_congr_left (g := PT.dat ∘ f) fun i hi' => (hf' i (List.mem_range.1 hi')).2.1]
end
/-- How much is put in all, and a letter a part. -/
def plenB : List PT → Nat
  | [] => 0
  | p :: l => p.put.length + plenB l
/-- A part's letters are within the bulk. -/
theorem bulk_mem {H : Type} {d : DataW H} {l : List (DataW H)} (h : d ∈ l) : Rows.uptoBulk d ≤ Rows.uptoBulkAll l := by
  induction l with
  | nil => cases h
  | cons x r ih =>
    simp only [Rows.uptoBulkAll]
    rcases List.mem_cons.1 h with e | e
    · subst e; omega
    · have := ih e; omega
theorem bulk_of {H : Type} {l : List (DataW H)} (hk : Rows.uptoSmall H l = true) : Rows.uptoBulkAll l ≤ 1048576 := of_decide_eq_true hk
theorem bulk_parts {H : Type} {l : List PT} {spare : List (DataW H)} {ds : List (DataW H)} (hd : (.slice (l.map PT.dat) spare : DataW H) ∈ ds) (hk : Rows.uptoSmall H ds = true) : plenB l ≤ 1048576 := by
  have h1 := bulk_mem hd
  have h2 := bulk_of hk
  simp only [Rows.uptoBulk] at h1
  have h3 : plenB l ≤ Rows.uptoBulkAll (l.map (PT.dat (H := H))) := by
    clear hd h1
    induction l with
    | nil => simp [plenB]
    | cons p l ih =>
      simp only [List.map_cons, Rows.uptoBulkAll, plenB, PT.dat, Rows.uptoBulk]
      omega
  omega
theorem plenB_mem {l : List PT} {p : PT} (h : p ∈ l) : p.put.length ≤ plenB l := by
  induction l with
  | nil => simp at h
  | cons q l ih =>
    rw [plenB]
    rcases List.mem_cons.1 h with e | e
    · subst e; omega
    · have := ih e; omega
end Go.Proofs.YtgokmldngnmmhaaDoor
