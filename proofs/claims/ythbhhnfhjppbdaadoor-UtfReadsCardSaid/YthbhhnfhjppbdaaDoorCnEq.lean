/- '==' of two Counts. -/
import Derived.Test.YthbhhnfhjppbdaaDoorUtfC
import Derived.Laws.StructEq
namespace Go.Proofs.YthbhhnfhjppbdaaDoor
open Go.RowKit
set_option maxRecDepth 100000
theorem cn_guard : Tryd.prog.eqGuardType Tryd.prog.depth 48 = false := by kernel_rfl
theorem cn_held : Tryd.prog.stoodInHeld 48 = false := by kernel_rfl
theorem cn_fields : Tryd.prog.underlying 48 = some (.struct (Tryd.prog.fieldsOf 48)) := by kernel_rfl
theorem cn_list : (Tryd.prog.fieldsOf 48).toList.map (fun f => (f.name, f.type, f.offset)) = [("Bytes", 3, 0), ("Halves", 3, 1), ("Runes", 3, 2), ("Lines", 3, 3)] := by kernel_rfl
theorem four_of_map {α β : Type} (f : α → β) {l : List α} {a b c d : β} (h : l.map f = [a, b, c, d]) : ∃ x0 x1 x2 x3, l = [x0, x1, x2, x3] ∧ f x0 = a ∧ f x1 = b ∧ f x2 = c ∧ f x3 = d := by
  match l, h with
  | [], h => simp at h
  | [_], h => simp at h
  | [_, _], h => simp at h
  | [_, _, _], h => simp at h
  | [x0, x1, x2, x3], h =>
    simp only [List.map_cons, List.map_nil, List.cons.injEq, and_true] at h
    exact ⟨x0, x1, x2, x3, rfl, h.1, h.2.1, h.2.2.1, h.2.2.2⟩
  | _ :: _ :: _ :: _ :: _ :: _, h => simp at h
theorem cn_list4 : ∃ f0 f1 f2 f3, (Tryd.prog.fieldsOf 48).toList = [f0, f1, f2, f3] ∧ (f0.name, f0.type, f0.offset) = ("Bytes", 3, 0) ∧ (f1.name, f1.type, f1.offset) = ("Halves", 3, 1) ∧ (f2.name, f2.type, f2.offset) = ("Runes", 3, 2) ∧ (f3.name, f3.type, f3.offset) = ("Lines", 3, 3) := by
  exact four_of_map _ cn_list
theorem cn_part0 (a b c d : Int) (w : World) : (part 3 #[.int .i64 a, .int .i64 b, .int .i64 c, .int .i64 d] 0).run Tryd.prog w = .ok (.int .i64 a) w := by kernel_rfl
theorem cn_part1 (a b c d : Int) (w : World) : (part 3 #[.int .i64 a, .int .i64 b, .int .i64 c, .int .i64 d] 1).run Tryd.prog w = .ok (.int .i64 b) w := by kernel_rfl
theorem cn_part2 (a b c d : Int) (w : World) : (part 3 #[.int .i64 a, .int .i64 b, .int .i64 c, .int .i64 d] 2).run Tryd.prog w = .ok (.int .i64 c) w := by kernel_rfl
theorem cn_part3 (a b c d : Int) (w : World) : (part 3 #[.int .i64 a, .int .i64 b, .int .i64 c, .int .i64 d] 3).run Tryd.prog w = .ok (.int .i64 d) w := by kernel_rfl
theorem cn_eqIn (x y : Cn) (w : World) : (Op.equalIn 10000 48 x.v y.v).run Tryd.prog w = .ok (x.b == y.b && x.h == y.h && x.r == y.r && x.l == y.l) w := by
  unfold Cn.v
  rw [show (10000 : Nat) = 9999 + 1 from rfl, run_equalIn_struct w _ _ _ _ cn_fields cn_held]
  obtain ⟨f0, f1, f2, f3, hl, h0, h1, h2, h3⟩ := cn_list4
  simp only [Prod.mk.injEq] at h0 h1 h2 h3
  rw [hl]
  have hi : ∀ (a b : Int) (w : World), (Op.equalIn 9999 3 (.int .i64 a) (.int .i64 b)).run Tryd.prog w = .ok (a == b) w := fun a b w => run_equalIn_int w 9998 _ _ _ _ _ Tryd.underlying3
  simp only [Op.eqFields, h0.1, h0.2.1, h0.2.2, h1.1, h1.2.1, h1.2.2, h2.1, h2.2.1, h2.2.2, h3.1, h3.2.1, h3.2.2]
  cases e0 : (x.b == y.b) <;> cases e1 : (x.h == y.h) <;> cases e2 : (x.r == y.r) <;> cases e3 : (x.l == y.l) <;>
    simp [cn_part0, cn_part1, cn_part2, cn_part3, hi, e0, e1, e2, e3, Result.andThen]
def Cn.beq (x y : Cn) : Bool := x.b == y.b && x.h == y.h && x.r == y.r && x.l == y.l
theorem Cn.beq_self (x : Cn) : x.beq x = true := by simp [Cn.beq]
theorem Cn.beq_iff {x y : Cn} : x.beq y = true ↔ x = y := by
  cases x; cases y
  simp [Cn.beq, and_assoc]
theorem cn_eql (x y : Cn) (w : World) : (binOp .eql 48 x.v y.v).run Tryd.prog w = .ok (.bool (x.beq y)) w := by
  have h := cn_eqIn x y w
  unfold Cn.v at h ⊢
  rw [run_eql_struct, h]; rfl
theorem cn_neq (x y : Cn) (w : World) : (binOp .neq 48 x.v y.v).run Tryd.prog w = .ok (.bool (!x.beq y)) w := by
  have h := cn_eqIn x y w
  unfold Cn.v at h ⊢
  rw [run_neq_struct, h]; rfl
theorem cn_eqGuard (op : BinOp) (p q : Operand) (xs ys : Array Value) (w : World) : (eqGuard op 48 p q (.agg xs) (.agg ys)).run Tryd.prog w = .ok () w := run_eqGuard_agg w op _ p q xs ys cn_guard
end Go.Proofs.YthbhhnfhjppbdaaDoor
