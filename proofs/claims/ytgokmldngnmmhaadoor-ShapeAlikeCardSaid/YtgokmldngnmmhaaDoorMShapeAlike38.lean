/- '==' of a part with itself. -/
import Derived.Test.YtgokmldngnmmhaaDoorMShapeAlike11
import Derived.Laws.StructEq
namespace Go.Proofs.YtgokmldngnmmhaaDoor
open Go.RowKit
set_option maxRecDepth 100000
theorem pt_guard : Tryd.prog.eqGuardType Tryd.prog.depth 111 = false := by kernel_rfl
theorem pt_held : Tryd.prog.stoodInHeld 111 = false := by kernel_rfl
theorem pt_fields : Tryd.prog.underlying 111 = some (.struct (Tryd.prog.fieldsOf 111)) := by kernel_rfl
theorem pt_list : (Tryd.prog.fieldsOf 111).toList.map (fun f => (f.name, f.type, f.offset)) = [("Keep", 3, 0), ("Drop", 3, 1), ("Put", 9, 2)] := by kernel_rfl
theorem three_of_map {α β : Type} (f : α → β) {l : List α} {a b c : β} (h : l.map f = [a, b, c]) : ∃ x0 x1 x2, l = [x0, x1, x2] ∧ f x0 = a ∧ f x1 = b ∧ f x2 = c := by
  match l, h with
  | [], h => simp at h
  | [_], h => simp at h
  | [_, _], h => simp at h
  | [x0, x1, x2], h =>
    simp only [List.map_cons, List.map_nil, List.cons.injEq, and_true] at h
    exact ⟨x0, x1, x2, rfl, h.1, h.2.1, h.2.2⟩
  | _ :: _ :: _ :: _ :: _, h => simp at h
theorem pt_list3 : ∃ f0 f1 f2, (Tryd.prog.fieldsOf 111).toList = [f0, f1, f2] ∧ (f0.name, f0.type, f0.offset) = ("Keep", 3, 0) ∧ (f1.name, f1.type, f1.offset) = ("Drop", 3, 1) ∧ (f2.name, f2.type, f2.offset) = ("Put", 9, 2) := by
  exact three_of_map _ pt_list
theorem pt_part0 (a b : Int) (c : ByteArray) (w : World) : (part 3 #[.int .i64 a, .int .i64 b, .string c] 0).run Tryd.prog w = .ok (.int .i64 a) w := by kernel_rfl
theorem pt_part1 (a b : Int) (c : ByteArray) (w : World) : (part 3 #[.int .i64 a, .int .i64 b, .string c] 1).run Tryd.prog w = .ok (.int .i64 b) w := by kernel_rfl
theorem pt_part2 (a b : Int) (c : ByteArray) (w : World) : (part 9 #[.int .i64 a, .int .i64 b, .string c] 2).run Tryd.prog w = .ok (.string c) w := by kernel_rfl
theorem pt_eqIn (x : PT) (w : World) : (Op.equalIn 10000 111 x.v x.v).run Tryd.prog w = .ok true w := by
  unfold PT.v
  rw [show (10000 : Nat) = 9999 + 1 from rfl, run_equalIn_struct w _ _ _ _ pt_fields pt_held]
  obtain ⟨f0, f1, f2, hl, h0, h1, h2⟩ := pt_list3
  simp only [Prod.mk.injEq] at h0 h1 h2
  rw [hl]
  have hi : ∀ (a b : Int) (w : World), (Op.equalIn 9999 3 (.int .i64 a) (.int .i64 b)).run Tryd.prog w = .ok (a == b) w := fun a b w => run_equalIn_int w 9998 _ _ _ _ _ Tryd.underlying3
  have hs : ∀ (a b : ByteArray) (w : World), (Op.equalIn 9999 9 (.string a) (.string b)).run Tryd.prog w = .ok (a.toList == b.toList) w := fun a b w => run_equalIn_string w 9998 _ _ _ Tryd.underlying9
  simp only [Op.eqFields, h0.1, h0.2.1, h0.2.2, h1.1, h1.2.1, h1.2.2, h2.1, h2.2.1, h2.2.2]
  simp [pt_part0, pt_part1, pt_part2, hi, hs, Result.andThen]
theorem pt_neq (x : PT) (w : World) : (binOp .neq 111 x.v x.v).run Tryd.prog w = .ok (.bool false) w := by
  have h := pt_eqIn x w
  unfold PT.v at h ⊢
  rw [run_neq_struct, h]; rfl
theorem pt_eqGuard (op : BinOp) (p q : Operand) (xs ys : Array Value) (w : World) : (eqGuard op 111 p q (.agg xs) (.agg ys)).run Tryd.prog w = .ok () w := run_eqGuard_agg w op _ p q xs ys pt_guard
end Go.Proofs.YtgokmldngnmmhaaDoor
