/- Several texts of the proof, one behind the other: CnEq, SpEq. -/
import Derived.Test.YtgokmldngnmmhaaDoorMPosConverts4
import Derived.Laws.StructEq
/- '==' of two Counts. -/
namespace Go.Proofs.YtgokmldngnmmhaaDoor
open Go.RowKit
set_option maxRecDepth 100000
theorem cn_guard : Tryd.prog.eqGuardType Tryd.prog.depth 36 = false := by kernel_rfl
theorem cn_held : Tryd.prog.stoodInHeld 36 = false := by kernel_rfl
theorem cn_fields : Tryd.prog.underlying 36 = some (.struct (Tryd.prog.fieldsOf 36)) := by kernel_rfl
theorem cn_list : (Tryd.prog.fieldsOf 36).toList.map (fun f => (f.name, f.type, f.offset)) = [("Bytes", 3, 0), ("Halves", 3, 1), ("Runes", 3, 2), ("Lines", 3, 3)] := by kernel_rfl
theorem four_of_map {α β : Type} (f : α → β) {l : List α} {a b c d : β} (h : l.map f = [a, b, c, d]) : ∃ x0 x1 x2 x3, l = [x0, x1, x2, x3] ∧ f x0 = a ∧ f x1 = b ∧ f x2 = c ∧ f x3 = d := by
  match l, h with
  | [], h => simp at h
  | [_], h => simp at h
  | [_, _], h => simp at h
  | [_, _, _], h => simp at h
  | [x0, x1, x2, x3], h =>
    simp only [List.map_cons, List.map_nil, List.cons.injEq, and_true] at h
    exact ⟨x0, x1, x2, x3, rfl, h.1, h.2.1, h.2.2.1, h.2.2.2⟩
  | _ :: _ :: _ :: _ :: _ :: _, h => simp at h
theorem cn_list4 : ∃ f0 f1 f2 f3, (Tryd.prog.fieldsOf 36).toList = [f0, f1, f2, f3] ∧ (f0.name, f0.type, f0.offset) = ("Bytes", 3, 0) ∧ (f1.name, f1.type, f1.offset) = ("Halves", 3, 1) ∧ (f2.name, f2.type, f2.offset) = ("Runes", 3, 2) ∧ (f3.name, f3.type, f3.offset) = ("Lines", 3, 3) := by
  exact four_of_map _ cn_list
theorem cn_part0 (a b c d : Int) (w : World) : (part 3 #[.int .i64 a, .int .i64 b, .int .i64 c, .int .i64 d] 0).run Tryd.prog w = .ok (.int .i64 a) w := by kernel_rfl
theorem cn_part1 (a b c d : Int) (w : World) : (part 3 #[.int .i64 a, .int .i64 b, .int .i64 c, .int .i64 d] 1).run Tryd.prog w = .ok (.int .i64 b) w := by kernel_rfl
theorem cn_part2 (a b c d : Int) (w : World) : (part 3 #[.int .i64 a, .int .i64 b, .int .i64 c, .int .i64 d] 2).run Tryd.prog w = .ok (.int .i64 c) w := by kernel_rfl
theorem cn_part3 (a b c d : Int) (w : World) : (part 3 #[.int .i64 a, .int .i64 b, .int .i64 c, .int .i64 d] 3).run Tryd.prog w = .ok (.int .i64 d) w := by kernel_rfl
theorem cn_eqIn (x y : Cn) (w : World) : (Op.equalIn 10000 36 x.v y.v).run Tryd.prog w = .ok (x.b == y.b && x.h == y.h && x.r == y.r && x.l == y.l) w := by
  unfold Cn.v
  rw [show (10000 : Nat) = 9999 + 1 from rfl, run_equalIn_struct w _ _ _ _ cn_fields cn_held]
  obtain ⟨f0, f1, f2, f3, hl, h0, h1, h2, h3⟩ := cn_list4
  simp only [Prod.mk.injEq] at h0 h1 h2 h3
  rw [hl]
  have hi : ∀ (a b : Int) (w : World), (Op.equalIn 9999 3 (.int .i64 a) (.int .i64 b)).run Tryd.prog w = .ok (a == b) w := fun a b w => run_equalIn_int w 9998 _ _ _ _ _ Tryd.underlying3
  simp only [Op.eqFields, h0.1, h0.2.1, h0.2.2, h1.1, h1.2.1, h1.2.2, h2.1, h2.2.1, h2.2.2, h3.1, h3.2.1, h3.2.2]
  cases e0 : (x.b == y.b) <;> cases e1 : (x.h == y.h) <;> cases e2 : (x.r == y.r) <;> cases e3 : (x.l == y.l) <;>
    simp [cn_part0, cn_part1, cn_part2, cn_part3, hi, e0, e1, e2, e3, Result.andThen]
def Cn.beq (x y : Cn) : Bool := x.b == y.b && x.h == y.h && x.r == y.r && x.l == y.l
theorem Cn.beq_self (x : Cn) : x.beq x = true := by simp [Cn.beq]
theorem Cn.beq_iff {x y : Cn} : x.beq y = true ↔ x = y := by
  cases x; cases y
  simp [Cn.beq, and_assoc]
theorem cn_eql (x y : Cn) (w : World) : (binOp .eql 36 x.v y.v).run Tryd.prog w = .ok (.bool (x.beq y)) w := by
  have h := cn_eqIn x y w
  unfold Cn.v at h ⊢
  rw [run_eql_struct, h]; rfl
theorem cn_neq (x y : Cn) (w : World) : (binOp .neq 36 x.v y.v).run Tryd.prog w = .ok (.bool (!x.beq y)) w := by
  have h := cn_eqIn x y w
  unfold Cn.v at h ⊢
  rw [run_neq_struct, h]; rfl
theorem cn_eqGuard (op : BinOp) (p q : Operand) (xs ys : Array Value) (w : World) : (eqGuard op 36 p q (.agg xs) (.agg ys)).run Tryd.prog w = .ok () w := run_eqGuard_agg w op _ p q xs ys cn_guard
end Go.Proofs.YtgokmldngnmmhaaDoor
/- '==' of two Spots. -/
namespace Go.Proofs.YtgokmldngnmmhaaDoor
open Go.RowKit
set_option maxRecDepth 100000
theorem sp_guard : Tryd.prog.eqGuardType Tryd.prog.depth 91 = false := by kernel_rfl
theorem sp_held : Tryd.prog.stoodInHeld 91 = false := by kernel_rfl
theorem sp_fields : Tryd.prog.underlying 91 = some (.struct (Tryd.prog.fieldsOf 91)) := by kernel_rfl
theorem sp_list : (Tryd.prog.fieldsOf 91).toList.map (fun f => (f.name, f.type, f.offset)) = [("Line", 3, 0), ("Column", 3, 1)] := by kernel_rfl
theorem two_of_map {α β : Type} (f : α → β) {l : List α} {a b : β} (h : l.map f = [a, b]) : ∃ x0 x1, l = [x0, x1] ∧ f x0 = a ∧ f x1 = b := by
  match l, h with
  | [], h => simp at h
  | [_], h => simp at h
  | [x0, x1], h =>
    simp only [List.map_cons, List.map_nil, List.cons.injEq, and_true] at h
    exact ⟨x0, x1, rfl, h.1, h.2⟩
  | _ :: _ :: _ :: _, h => simp at h
theorem sp_list2 : ∃ f0 f1, (Tryd.prog.fieldsOf 91).toList = [f0, f1] ∧ (f0.name, f0.type, f0.offset) = ("Line", 3, 0) ∧ (f1.name, f1.type, f1.offset) = ("Column", 3, 1) := two_of_map _ sp_list
theorem sp_part0 (a b : Int) (w : World) : (part 3 #[.int .i64 a, .int .i64 b] 0).run Tryd.prog w = .ok (.int .i64 a) w := by kernel_rfl
theorem sp_part1 (a b : Int) (w : World) : (part 3 #[.int .i64 a, .int .i64 b] 1).run Tryd.prog w = .ok (.int .i64 b) w := by kernel_rfl
theorem sp_eqIn (a b c d : Int) (w : World) : (Op.equalIn 10000 91 (.agg #[.int .i64 a, .int .i64 b]) (.agg #[.int .i64 c, .int .i64 d])).run Tryd.prog w = .ok (a == c && b == d) w := by
  rw [show (10000 : Nat) = 9999 + 1 from rfl, run_equalIn_struct w _ _ _ _ sp_fields sp_held]
  obtain ⟨f0, f1, hl, h0, h1⟩ := sp_list2
  simp only [Prod.mk.injEq] at h0 h1
  rw [hl]
  have hi : ∀ (a b : Int) (w : World), (Op.equalIn 9999 3 (.int .i64 a) (.int .i64 b)).run Tryd.prog w = .ok (a == b) w := fun a b w => run_equalIn_int w 9998 _ _ _ _ _ Tryd.underlying3
  simp only [Op.eqFields, h0.1, h0.2.1, h0.2.2, h1.1, h1.2.1, h1.2.2]
  cases e0 : (a == c) <;> cases e1 : (b == d) <;> simp [sp_part0, sp_part1, hi, e0, e1, Result.andThen]
theorem sp_eql (a b : Int) (w : World) : (binOp .eql 91 (.agg #[.int .i64 a, .int .i64 b]) (.agg #[.int .i64 a, .int .i64 b])).run Tryd.prog w = .ok (.bool true) w := by
  have h := sp_eqIn a b a b w
  simp only [beq_self_eq_true, Bool.and_self] at h
  rw [run_eql_struct, h]; rfl
theorem sp_eqGuard (op : BinOp) (p q : Operand) (xs ys : Array Value) (w : World) : (eqGuard op 91 p q (.agg xs) (.agg ys)).run Tryd.prog w = .ok () w := run_eqGuard_agg w op _ p q xs ys sp_guard
end Go.Proofs.YtgokmldngnmmhaaDoor
