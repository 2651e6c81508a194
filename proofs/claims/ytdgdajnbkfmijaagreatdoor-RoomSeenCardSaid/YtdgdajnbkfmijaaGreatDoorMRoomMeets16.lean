/- Several texts of the proof, one behind the other: AsF, PtEq, RangeB, PartO, SayM, OpsO, ActO. -/
import Derived.Test.YtdgdajnbkfmijaaGreatDoorMRoomMeets6
import Derived.LaidEql
import Derived.Stop.Asserts
import Derived.RowKitTokens
import Derived.Test.YtdgdajnbkfmijaaGreatDoorMRoomMeets4
import Derived.Laws.StructEq
import Derived.Test.YtdgdajnbkfmijaaGreatDoorMRoomMeets8
import Derived.Lib.QuietBelowIn
import Derived.Sort.BigQuietIn
import Derived.Sort.Grow
import Derived.Test.YtdgdajnbkfmijaaGreatDoorMRoomMeets1
import Derived.Test.YtdgdajnbkfmijaaGreatDoorRows
import Derived.Deep.Slices
import Derived.ChangeArms
/- errors.As at the target *api.Errno, by its contracts: closed facts on the model's entries for internal/reflectlite at this program's types. After the guide's worked example ToyasAs. -/
namespace Go.Proofs.YtdgdajnbkfmijaaGreatDoor
open Go.RowKit Go.Extern.Stop Go.Stop Go.Extern
set_option maxRecDepth 100000
theorem as_valueOfP (t : Addr) (w : World) : (ReflectliteValue.unpack (.iface 180 (.pointer (some t)))).run Tryz.prog w
    = .ok (.agg #[.pointer (some ⟨2, 180, none⟩), .pointer (some ⟨w.heap.size, 0, none⟩), .int .u64 150]) (w.alloc (.cells #[.pointer (some t)] 180)) := by kernel_rfl
theorem as_typeP (a : Addr) (w : World) : (ReflectliteValue.methodAny (ReflectliteValue.valueError "reflectlite.Value.Type" 0) (fun t _ _ _ => ReflectliteType.toType t) #[.agg #[.pointer (some ⟨2, 180, none⟩), .pointer (some a), .int .u64 150]]).run Tryz.prog w
    = .ok (.iface 270 (.agg #[.pointer (some ⟨2, 180, none⟩)])) w := by kernel_rfl
theorem as_methodKind (h : Value) (w : World) : (Go.method 415 270 (.agg #[h]) "Kind").run Tryz.prog w = .ok (194, h) w := by kernel_rfl
theorem as_methodElem (h : Value) (w : World) : (Go.method 415 270 (.agg #[h]) "Elem").run Tryz.prog w = .ok (208, .agg #[h]) w := by kernel_rfl
theorem as_methodImplements (h : Value) (w : World) : (Go.method 415 270 (.agg #[h]) "Implements").run Tryz.prog w = .ok (209, .agg #[h]) w := by kernel_rfl
theorem as_methodAssignableTo (h : Value) (w : World) : (Go.method 415 270 (.agg #[h]) "AssignableTo").run Tryz.prog w = .ok (206, .agg #[h]) w := by kernel_rfl
theorem as_kindP (w : World) : ((ReflectliteType.abiMethod fun t => (fun a : Nat => Value.int IntKind.u8 (a : Int)) <$> Rtype.kind t) #[.pointer (some ⟨2, 180, none⟩)]).run Tryz.prog w = .ok (.int .u8 22) w := by kernel_rfl
theorem as_kindE (w : World) : ((ReflectliteType.abiMethod fun t => (fun a : Nat => Value.int IntKind.u8 (a : Int)) <$> Rtype.kind t) #[.pointer (some ⟨2, 29, none⟩)]).run Tryz.prog w = .ok (.int .u8 2) w := by kernel_rfl
theorem rlm (z : Sem Value) (f : TypeId → Addr → Nat → Nat → Sem Value) (v : Value) :
    ReflectliteValue.method z f #[v] = (do match ← ReflectliteValue.parts v with | none => z | some (t, a, fl) => f t a fl (fl % 32)) := rfl
theorem as_partsP (a : Addr) (w : World) : (ReflectliteValue.parts (.agg #[.pointer (some ⟨2, 180, none⟩), .pointer (some a), .int .u64 150])).run Tryz.prog w = .ok (some (180, a, 150)) w := by kernel_rfl
theorem as_isNilP (a p : Addr) (W : World) (ha : W.cell? a = some (.pointer (some p))) :
    (ReflectliteValue.method (ReflectliteValue.valueError "reflectlite.Value.IsNil" 0) ReflectliteValue.isNil #[.agg #[.pointer (some ⟨2, 180, none⟩), .pointer (some a), .int .u64 150]]).run Tryz.prog W = .ok (.bool false) W := by
  rw [rlm]
  simp only [Sem.run_bind, as_partsP, Result.andThen]
  simp [ReflectliteValue.isNil, loadVar, isAgg, underlying, Tryz.underlying180, ha, Result.andThen]
theorem as_elemT (w : World) : (ReflectliteType.method ReflectliteType.elem #[.agg #[.pointer (some ⟨2, 180, none⟩)]]).run Tryz.prog w = .ok (.iface 270 (.agg #[.pointer (some ⟨2, 29, none⟩)])) w := by kernel_rfl
theorem as_implements (w : World) : (ReflectliteType.relation "Implements" ReflectliteType.implements_ #[.agg #[.pointer (some ⟨2, 29, none⟩)], .iface 270 (.agg #[.pointer (some ⟨2, 25, none⟩)])]).run Tryz.prog w = .ok (.bool true) w := by kernel_rfl
theorem as_typeOfE (v : Value) (w : World) : (ReflectliteType.typeOf #[.iface 29 v]).run Tryz.prog w = .ok (.iface 270 (.agg #[.pointer (some ⟨2, 29, none⟩)])) w := by kernel_rfl
theorem as_typeOfA (v : Value) (w : World) : (ReflectliteType.typeOf #[.iface 125 v]).run Tryz.prog w = .ok (.iface 270 (.agg #[.pointer (some ⟨2, 125, none⟩)])) w := by kernel_rfl
theorem as_assignableE (w : World) : (ReflectliteType.relation "AssignableTo" ReflectliteType.assignableTo #[.agg #[.pointer (some ⟨2, 29, none⟩)], .iface 270 (.agg #[.pointer (some ⟨2, 29, none⟩)])]).run Tryz.prog w = .ok (.bool true) w := by kernel_rfl
theorem as_assignableA (w : World) : (ReflectliteType.relation "AssignableTo" ReflectliteType.assignableTo #[.agg #[.pointer (some ⟨2, 125, none⟩)], .iface 270 (.agg #[.pointer (some ⟨2, 29, none⟩)])]).run Tryz.prog w = .ok (.bool false) w := by kernel_rfl
theorem as_valueOfE (e : Int) (w : World) : (ReflectliteValue.unpack (.iface 29 (.int .i64 e))).run Tryz.prog w
    = .ok (.agg #[.pointer (some ⟨2, 29, none⟩), .pointer (some ⟨w.heap.size, 0, none⟩), .int .u64 130]) (w.alloc (.cells #[.int .i64 e] 29)) := by kernel_rfl
theorem as_elemOfP (w : World) : (Rtype.elem? 180).run Tryz.prog w = .ok (some 29) w := by kernel_rfl
theorem as_mkE (p : Addr) (w : World) : (ReflectliteValue.mk 29 p ReflectliteValue.flagAddr).run Tryz.prog w = .ok (.agg #[.pointer (some ⟨2, 29, none⟩), .pointer (some p), .int .u64 386]) w := by kernel_rfl
theorem as_elemV (a p : Addr) (W : World) (ha : W.cell? a = some (.pointer (some p))) :
    (ReflectliteValue.method (ReflectliteValue.valueError "reflectlite.Value.Elem" 0) ReflectliteValue.elem #[.agg #[.pointer (some ⟨2, 180, none⟩), .pointer (some a), .int .u64 150]]).run Tryz.prog W
      = .ok (.agg #[.pointer (some ⟨2, 29, none⟩), .pointer (some p), .int .u64 386]) W := by
  rw [rlm]
  simp only [Sem.run_bind, as_partsP, Result.andThen]
  simp [ReflectliteValue.elem, loadVar, isAgg, underlying, Tryz.underlying180, ha, Result.andThen, as_elemOfP, as_mkE]
theorem rls (v x : Value) : ReflectliteValue.set #[v, x] = (do
    let (some (dst, a, fl), some (src, b, _)) := (← ReflectliteValue.parts v, ← ReflectliteValue.parts x)
      | unsupported (.noEntry "extern/(internal/reflectlite.Value).Set.zeroValue")
    if fl / ReflectliteValue.flagAddr % 2 == 0 then unsupported (.noEntry "extern/(internal/reflectlite.Value).Set.unaddressable")
    let val ← loadVar src b
    if ← Rtype.directlyAssignable dst src then storeVar dst a val
    else if ← Rtype.implements dst src then
      if (← Rtype.kind src) == 20 then
        match val with
        | .nilIface => unsupported (.noEntry "extern/reflectlite: a nil value of one interface type handed on as a value of another")
        | _ => storeVar dst a val
      else storeVar dst a (.iface src val)
    else panicString ("reflectlite.Set: value of type " ++ (← Rtype.spelt src) ++ " is not assignable to type " ++ (← Rtype.spelt dst))
    pure (.tuple #[])) := rfl
theorem as_partsEa (a : Addr) (w : World) : (ReflectliteValue.parts (.agg #[.pointer (some ⟨2, 29, none⟩), .pointer (some a), .int .u64 386])).run Tryz.prog w = .ok (some (29, a, 386)) w := by kernel_rfl
theorem as_partsE (a : Addr) (w : World) : (ReflectliteValue.parts (.agg #[.pointer (some ⟨2, 29, none⟩), .pointer (some a), .int .u64 130])).run Tryz.prog w = .ok (some (29, a, 130)) w := by kernel_rfl
theorem as_direct (w : World) : (Rtype.directlyAssignable 29 29).run Tryz.prog w = .ok true w := by kernel_rfl
theorem as_set (ta b : Addr) (e : Int) (old : Value) (W : World) (hb : W.cell? b = some (.int .i64 e)) (ht : W.cell? ta = some old) (hf : W.frozen? ta = false) :
    (ReflectliteValue.set #[.agg #[.pointer (some ⟨2, 29, none⟩), .pointer (some ta), .int .u64 386], .agg #[.pointer (some ⟨2, 29, none⟩), .pointer (some b), .int .u64 130]]).run Tryz.prog W
      = .ok (.tuple #[]) (W.setCell ta (.int .i64 e)) := by
  rw [rls]
  simp only [Sem.run_bind, as_partsEa, as_partsE, Result.andThen]
  simp [ReflectliteValue.flagAddr, loadVar, isAgg, underlying, Tryz.underlying29, hb, Result.andThen, as_direct, storeVar, Value.cells, storeCells, Addr.add]
  rw [run_store Tryz.prog W ta _ _ (by rfl)]
  simp [ht, hf]
end Go.Proofs.YtdgdajnbkfmijaaGreatDoor
/- '==' of a part with itself. -/
namespace Go.Proofs.YtdgdajnbkfmijaaGreatDoor
open Go.RowKit
set_option maxRecDepth 100000
theorem pt_fields : Tryz.prog.underlying 113 = some (.struct (Tryz.prog.fieldsOf 113)) := by kernel_rfl
theorem pt_list : (Tryz.prog.fieldsOf 113).toList.map (fun f => (f.name, f.type, f.offset)) = [("Keep", 3, 0), ("Drop", 3, 1), ("Put", 9, 2)] := by kernel_rfl
theorem three_of_map {α β : Type} (f : α → β) {l : List α} {a b c : β} (h : l.map f = [a, b, c]) : ∃ x0 x1 x2, l = [x0, x1, x2] ∧ f x0 = a ∧ f x1 = b ∧ f x2 = c := by
  match l, h with
  | [], h => simp at h
  | [_], h => simp at h
  | [_, _], h => simp at h
  | [x0, x1, x2], h =>
    simp only [List.map_cons, List.map_nil, List.cons.injEq, and_true] at h
    exact ⟨x0, x1, x2, rfl, h.1, h.2.1, h.2.2⟩
  | _ :: _ :: _ :: _ :: _, h => simp at h
theorem pt_list3 : ∃ f0 f1 f2, (Tryz.prog.fieldsOf 113).toList = [f0, f1, f2] ∧ (f0.name, f0.type, f0.offset) = ("Keep", 3, 0) ∧ (f1.name, f1.type, f1.offset) = ("Drop", 3, 1) ∧ (f2.name, f2.type, f2.offset) = ("Put", 9, 2) := by
  exact three_of_map _ pt_list
end Go.Proofs.YtdgdajnbkfmijaaGreatDoor
/- A range over a function, at the wide fence, by an iterator that keeps a variable of its own, with a body that never leaves: out of the kit's law of one statement (wpIn_rangeFunc). -/
namespace Go.Proofs.YtdgdajnbkfmijaaGreatDoor
open Go.RowKit Go.Shelf Go.Sort
section
variable {F : Fence} {n : Nat} {P : Program} {ops : Array Oper} {md : Region.Mode} {C : World → Prop} {l : Nat}
/-- An operation of a round that only reads, out of the walk at the fence itself. -/
theorem oper_round_quiet {o : Oper} {a : Act} {K : Act → Prop} {K' : Act → World → Prop} {Q' : Exit → Act → World → Prop} {w : World} (hnd : ∀ c, o.op ≠ .defer c) (hw : C w) (h : ∀ a w', C w' → K a → K' a w')
    (ha : o.askedIn F P a C) (hh : o.quietIn F n P a C K) : o.wpIn (F.inRound l) n P a w K' Q' := by
  obtain ⟨v, h1, h2⟩ := hh
  have h3 := h1 w hw
  unfold Oper.quietAtIn at h3
  unfold Oper.wpIn
  refine ⟨ha w hw, ?_⟩
  rw [Fence.inRound_round, Oper.semAt_some _ _ _ hnd]
  generalize (execOp a.eval o).run P w = r at *
  cases r with
  | ok x w' =>
    cases x <;> simp only [Oper.quietUponIn] at h3 <;> simp only [Oper.uponIn]
    case value u =>
      obtain ⟨e1, e2⟩ := h3
      rw [e1, e2]
      exact h _ _ hw h2
    case skip =>
      obtain ⟨e1, e2⟩ := h3
      rw [e1, ← e2]
      exact h _ _ hw h2
    case enter f args =>
      obtain ⟨e1, hd, hc⟩ := h3
      rw [e1]
      exact ⟨hd, CallsIn.inRound l (hc.mono fun e w'' ⟨he, hw''⟩ => by subst he; exact h _ _ hw'' h2)⟩
  | halt x w' => simp only [Oper.quietUponIn] at h3
theorem any_round_quiet {Q : Act → Prop} {Q' : Exit → Act → World → Prop} (hnd : ∀ (i : Nat) (o : Oper), ops[i]? = some o → ∀ c, o.op ≠ .defer c) (hQ : ∀ a w, C w → Q a → Q' .normal a w) : ∀ (fuel : Nat) (listed : Array Bool) (a : Act) (w : World), C w →
    wpAnyQIn F n P md ops C Q fuel listed a → wpAnyIn (F.inRound l) n P md ops Q' fuel listed a w
  | 0, _, _, _, hw, h => ⟨h.1, hQ _ _ hw h.2⟩
  | fuel + 1, listed, _, _, hw, h => ⟨fun h0 => hQ _ _ hw (h.1 h0), fun i hi => by
      have hh := h.2 i hi
      have ih := fun a' w' hw' => any_round_quiet hnd hQ fuel (listed.setIfInBounds i true) a' w' hw'
      unfold qOpIn at hh
      unfold wpOpIn
      split
      · rename_i ho; simp only [ho] at hh; exact ih _ _ hw hh
      · rename_i o ho
        simp only [ho] at hh
        obtain ⟨ha, hh⟩ := hh
        split
        · rename_i hw'; simp only [hw', if_true] at hh; exact oper_round_quiet (hnd _ _ ho) hw ih ha hh
        · rename_i hw'; simp only [hw'] at hh; exact ⟨ha _ hw, ih _ _ hw hh⟩⟩
/-- A region of a round that draws its order, whose callees leave what there was: walked once. -/
theorem round_quiet_below {id : Nat} {Q : Exit → Act → World → Prop} {a : Act} {w : World} {ol : List Oper} (hm : P.follows .mixedOrders = true) (hB : Region.lexB .any ol.toArray = true) (hnd : ol.all (fun o : Oper => match o.op with | .defer _ => false | _ => true) = true)
    (h : wpQuietIn F n P ol.toArray (fun w' => ∃ p : Regrown, w' = grow (redrawn w p.d) p.os) (fun a' => ∀ w', (∃ p : Regrown, w' = grow (redrawn w p.d) p.os) → Q .normal a' w') ol a) : (Code.region id ol.toArray true).wpIn (F.inRound l) n P Q a w := by
  simp only [Region.lexB, Bool.and_eq_true] at hB
  refine wpIn_region_any hm (any_round_quiet (Q := fun a' => ∀ w', (∃ p : Regrown, w' = grow (redrawn w p.d) p.os) → Q .normal a' w') ?_ (fun _ w' hw' h => h w' hw') _ _ _ _ ⟨⟨w.drawn + 1, #[]⟩, by rw [grow_empty]; rfl⟩ ?_)
  · intro i o ho c hc
    simp only [List.getElem?_toArray] at ho
    have := List.all_eq_true.1 hnd o (List.mem_of_getElem? ho)
    rw [hc] at this
    cases this
  · have := wpAnyQIn_lex (F := F) (n := n) (C := fun w' => ∃ p : Regrown, w' = grow (redrawn w p.d) p.os) (md := .any) hB.1 ol.toArray.toList 0 (Array.replicate ol.toArray.size false) a (by simp) (by simpa using hB.2) (by simpa using h)
    simpa using this
end
section
variable {P : Program} {n : Nat} {g : Operand} {ps : Array Tmp} {assign body : Code} {Q : Exit → Act → World → Prop} {a : Act} {w : World}
/-- What is asked of the iterator. -/
def IterB (P : Program) (n gf : Nat) (lb : Array Value) (xs : Nat → Array Value) (N iB : Nat) (w : World) : Prop :=
  ∀ (l : Nat) (J Jx : Nat → World → Prop) (W : World), Below w.heap.size w W → (∀ k A B, J k A → Below W.heap.size A B → J k B) →
    (∀ k A, k < N → J k A → YieldAt Fence.wide (n - 1) P l (xs k) A fun e A' => (e = .returned (.bool true) ∧ J (k + 1) A' ∧ KpB iB A A') ∨ (e = .returned (.bool false) ∧ Jx (k + 1) A')) →
    J 0 W → CallsIn Fence.wide n P gf (#[.func (.yield l) #[] #[]] ++ lb) W fun e W' => (∃ v, e = .returned v) ∧ (J N W' ∨ ∃ k, k ≤ N ∧ Jx k W')
theorem putObj_below {B : Nat} (W : World) (l : Nat) (o : Obj) (h : B ≤ l) : Below B W (W.putObj l o) :=
  ⟨rfl, rfl, rfl, by simp, fun _ hk => World.putObj_heap_other (by omega)⟩
end
end Go.Proofs.YtdgdajnbkfmijaaGreatDoor
/- An argument that is an operation, opened: a list of parts; and what the bound on its bulk gives. -/
namespace Go.Proofs.YtdgdajnbkfmijaaGreatDoor
open Go.ChangeShapes Go.WideShapes Go.ChangeAt Go.RowKit
set_option maxRecDepth 100000
theorem pt_cellsOf : Tryz.prog.cellsOf 113 = 3 := by kernel_rfl
theorem int_cellsOf : Tryz.prog.cellsOf 3 = 1 := by kernel_rfl
theorem str_cellsOf : Tryz.prog.cellsOf 9 = 1 := by kernel_rfl
/-- A part as data. -/
def PT.dat {H : Type} (p : PT) : DataW H := .agg [.lit (.int .i64 p.keep), .lit (.int .i64 p.drop), .lit (.string p.put)]
structure PT.In (p : PT) : Prop where
  k : -9223372036854775808 ≤ p.keep ∧ p.keep ≤ 9223372036854775807
  d : -9223372036854775808 ≤ p.drop ∧ p.drop ≤ 9223372036854775807
  s : p.put.length ≤ maxLen
theorem wf_i64 {n : Int} (h : (Lit.int .i64 n).wf = true) : -9223372036854775808 ≤ n ∧ n ≤ 9223372036854775807 := by
  simp [Lit.wf, IntKind.min, IntKind.max, IntKind.signed, IntKind.bits] at h
  omega
section
variable {H : Type} {enc : TypeId × Value → H} {w : World} {base : Nat} {sp : Nat → Bool} {held : Bool}
theorem open_part {n : Nat} {cs : List Value} {x : DataW H × List MemPlace} (h : DataW.trod enc Tryz.prog w base sp held n 113 cs = some x) :
    ∃ p : PT, cs = p.cells ∧ x.1 = p.dat ∧ p.In := by
  obtain ⟨xs, n', _, rfl, hcs, hxs, hf⟩ := DataW.trod_struct pt_fields h
  rw [pt_cellsOf] at hcs
  obtain ⟨f0, f1, f2, hl, h0, h1, h2⟩ := pt_list3
  simp only [Prod.mk.injEq] at h0 h1 h2
  have hsz : (Tryz.prog.fieldsOf 113).size = 3 := by rw [← Array.length_toList, hl]; rfl
  rw [hsz] at hxs
  have g : ∀ i f, [f0, f1, f2][i]? = some f → (Tryz.prog.fieldsOf 113)[i]? = some f := fun i f hi => by rw [← Array.getElem?_toList, hl]; exact hi
  match cs, hcs, xs, hxs with
  | [c0, c1, c2], _, [x0, x1, x2], _ =>
    have e0 := hf 0 f0 (g 0 f0 rfl)
    have e1 := hf 1 f1 (g 1 f1 rfl)
    have e2 := hf 2 f2 (g 2 f2 rfl)
    rw [h0.2.1, h0.2.2, int_cellsOf] at e0
    rw [h1.2.1, h1.2.2, int_cellsOf] at e1
    rw [h2.2.1, h2.2.2, str_cellsOf] at e2
    obtain ⟨a, a1, rfl, a3⟩ := DataW.trod_int Tryz.underlying3 e0
    obtain ⟨b, b1, rfl, b3⟩ := DataW.trod_int Tryz.underlying3 e1
    obtain ⟨s, s1, rfl, s3⟩ := DataW.trod_string Tryz.underlying9 e2
    simp at a1 b1 s1
    subst a1 b1 s1
    exact ⟨⟨a, b, s.data.toList⟩, by simp [PT.cells], rfl, wf_i64 a3, wf_i64 b3, s3⟩
end
end Go.Proofs.YtdgdajnbkfmijaaGreatDoor
/- Structs of three whole numbers and an operation, as lists of cells. -/
namespace Go.Proofs.YtdgdajnbkfmijaaGreatDoor
open Go.RowKit
set_option maxRecDepth 100000
/-- One of an argument: three whole numbers and an operation. -/
structure SAY where
  x : Int
  y : Int
  z : Int
  v : Value
  op : List PT
def SAY.cells (p : SAY) : List Value := [.int .i64 p.x, .int .i64 p.y, .int .i64 p.z, p.v]
structure SAY.Ok (p : SAY) (w : World) : Prop where
  x : (Lit.int .i64 p.x).wf = true
  y : (Lit.int .i64 p.y).wf = true
  z : (Lit.int .i64 p.z).wf = true
  op : Sl w 3 p.v p.op.length (opv p.op)
  parts : ∀ q ∈ p.op, q.In
def says (L : List SAY) : List Value := L.flatMap SAY.cells
theorem says_length (L : List SAY) : (says L).length = L.length * 4 := by
  induction L with
  | nil => rfl
  | cons p L ih =>
    have e : says (p :: L) = p.cells ++ says L := by simp [says]
    rw [e, List.length_append, ih]
    simp [SAY.cells]
    omega
theorem says_at {L : List SAY} {k j : Nat} (hk : k < L.length) (hj : j < 4) : (says L)[k * 4 + j]? = L[k].cells[j]? := by
  induction L generalizing k with
  | nil => simp at hk
  | cons p L ih =>
    have e : says (p :: L) = p.cells ++ says L := by simp [says]
    have hl : p.cells.length = 4 := rfl
    rw [e]
    cases k with
    | zero => rw [Nat.zero_mul, Nat.zero_add, List.getElem?_append_left (by omega)]; rfl
    | succ k =>
      rw [List.getElem?_append_right (by omega), hl, show (k + 1) * 4 + j - 4 = k * 4 + j from by omega, ih (by simpa using hk)]
      rfl
/-- Element k, its four cells. -/
theorem Sl.say {w : World} {L : List SAY} {v : Value} {n : Nat} (h : Sl w 4 v n (says L)) {k : Nat} (hk : k < n) (hl : k < L.length) : ∃ b o c, v = .slice (some ⟨b, o, none⟩) n c ∧ b < w.heap.size ∧
    w.cell? ⟨b, o + k * 4, none⟩ = some (.int .i64 L[k].x) ∧ w.cell? ⟨b, o + k * 4 + 1, none⟩ = some (.int .i64 L[k].y) ∧ w.cell? ⟨b, o + k * 4 + 2, none⟩ = some (.int .i64 L[k].z) ∧ w.cell? ⟨b, o + k * 4 + 3, none⟩ = some L[k].v := by
  obtain ⟨A, c, rfl, h2, _, _, _, h5⟩ := h
  obtain ⟨ad, rfl, hb, hc⟩ := h5 (by omega)
  have c0 := hc _ _ ((says_at hl (j := 0) (by omega)).trans rfl)
  have c1 := hc _ _ ((says_at hl (j := 1) (by omega)).trans rfl)
  have c2 := hc _ _ ((says_at hl (j := 2) (by omega)).trans rfl)
  have c3 := hc _ _ ((says_at hl (j := 3) (by omega)).trans rfl)
  obtain ⟨b, o, p⟩ := ad
  have hp : p = none := by
    cases p with
    | none => rfl
    | some x =>
      have hl0 : 0 < L.length := by omega
      have hz := hc _ _ ((says_at hl0 (j := 0) (by omega)).trans rfl)
      have : (⟨b, o, some x⟩ : Addr).add (0 * 4 + 0) = ⟨b, o, some x⟩ := by unfold Addr.add; rfl
      rw [this] at hz
      unfold World.cell? at hz
      split at hz <;> simp at hz
  subst hp
  simp only [add_mk] at c0 c1 c2 c3
  exact ⟨b, o, c, rfl, hb, by rw [← c0]; rfl, by rw [← c1, Nat.add_assoc], by rw [← c2, Nat.add_assoc], by rw [← c3, Nat.add_assoc]⟩
theorem four_of_map {α β : Type} (f : α → β) {l : List α} {a b c d : β} (h : l.map f = [a, b, c, d]) : ∃ x0 x1 x2 x3, l = [x0, x1, x2, x3] ∧ f x0 = a ∧ f x1 = b ∧ f x2 = c ∧ f x3 = d := by
  match l, h with
  | [], h => simp at h
  | [_], h => simp at h
  | [_, _], h => simp at h
  | [_, _, _], h => simp at h
  | [x0, x1, x2, x3], h =>
    simp only [List.map_cons, List.map_nil, List.cons.injEq, and_true] at h
    exact ⟨x0, x1, x2, x3, rfl, h.1, h.2.1, h.2.2.1, h.2.2.2⟩
  | _ :: _ :: _ :: _ :: _ :: _, h => simp at h
end Go.Proofs.YtdgdajnbkfmijaaGreatDoor
/- An argument that is a list of operations, opened; few, of any size. -/
namespace Go.Proofs.YtdgdajnbkfmijaaGreatDoor
open Go.ChangeShapes Go.WideShapes Go.ChangeAt Go.RowKit
set_option maxRecDepth 100000
section
variable {H : Type} {enc : TypeId × Value → H} {w : World} {base : Nat}
theorem open_partsC {fuel : Nat} {cs : List Value} {x : DataW H × List MemPlace} (hf : DataW.trod enc Tryz.prog w base (fun _ => true) true fuel 36 cs = some x) :
    ∃ (v : Value) (n : Nat) (l : List PT), cs = [v] ∧ Sl w 3 v n (opv l) ∧ l.length = n ∧ (∀ p ∈ l, p.In) := by
  rcases Go.Deep.open_slice Tryz.underlying36 hf with ⟨rfl, hx⟩ | ⟨a, len, cap, m, n, D, Pl, rfl, _, hl, hm, hmm, hx, hi⟩
  · exact ⟨_, 0, [], rfl, Sl.nil w 3, rfl, fun p hp => by simp at hp⟩
  · simp only [if_true] at hmm
    subst hmm
    rw [pt_cellsOf] at hi
    have hpt : ∀ i, ∃ p : PT, i < len → (∀ j u, p.cells[j]? = some u → w.cell? (a.add (i * 3 + j)) = some u) ∧ D i = p.dat ∧ p.In := by
      intro i
      by_cases h : i < len
      · obtain ⟨cs', hc, ht⟩ := hi i (by omega)
        obtain ⟨p, rfl, hx, hin⟩ := open_part ht
        obtain ⟨_, _, hat⟩ := World.cells?_some hc
        refine ⟨p, fun _ => ⟨fun j u hu => ?_, hx, hin⟩⟩
        have hj : j < 3 := by
          rcases Nat.lt_or_ge j 3 with h | h
          · exact h
          · rw [List.getElem?_eq_none (by simpa using h)] at hu; cases hu
        rw [← add_of_add, hat j hj, hu]
      · exact ⟨⟨0, 0, []⟩, fun h' => absurd h' h⟩
    obtain ⟨f, hf'⟩ := Classical.axiomOfChoice hpt
    refine ⟨_, len, (List.range len).map f, rfl, ⟨some a, _, rfl, by rw [opv_length]; simp, hl, hm, (fun h => nomatch h), fun hn => ⟨a, rfl, ?_, ?_⟩⟩, by simp, ?_⟩
    · have h1 := (hf' 0 hn).1 0 _ rfl
      have := World.block_lt_of_cell? w _ h1
      rw [block_of_add] at this
      exact this
    · intro j u hu
      have hj : j < len * 3 := by
        rcases Nat.lt_or_ge j (len * 3) with h | h
        · exact h
        · rw [List.getElem?_eq_none (by rw [opv_length]; simpa using h)] at hu; cases hu
      have hk : j / 3 < ((List.range len).map f).length := by simp; omega
      obtain ⟨o0, o1, o2⟩ := opv_at hk
      have hg : ((List.range len).map f)[j / 3] = f (j / 3) := by simp
      rw [hg] at o0 o1 o2
      obtain ⟨hc, _, _⟩ := hf' (j / 3) (by omega)
      have hr : j % 3 = 0 ∨ j % 3 = 1 ∨ j % 3 = 2 := by omega
      rcases hr with hr | hr | hr
      · rw [show j = 3 * (j / 3) from by omega, o0] at hu
        have := hc 0 u (by simpa using hu)
        rwa [show j / 3 * 3 + 0 = j from by omega] at this
      · rw [show j = 3 * (j / 3) + 1 from by omega, o1] at hu
        have := hc 1 u (by simpa using hu)
        rwa [show j / 3 * 3 + 1 = j from by omega] at this
      · rw [show j = 3 * (j / 3) + 2 from by omega, o2] at hu
        have := hc 2 u (by simpa using hu)
        rwa [show j / 3 * 3 + 2 = j from by omega] at this
    · intro p hp
      obtain ⟨i, hi', rfl⟩ := List.mem_map.1 hp
      exact (hf' i (List.mem_range.1 hi')).2.2
end
end Go.Proofs.YtdgdajnbkfmijaaGreatDoor
/- An argument that is a list of acts, opened: three whole numbers and an operation each. -/
namespace Go.Proofs.YtdgdajnbkfmijaaGreatDoor
open Go.ChangeShapes Go.WideShapes Go.ChangeAt Go.RowKit
set_option maxRecDepth 100000
theorem act_cellsOf : Tryz.prog.cellsOf 71 = 4 := by kernel_rfl
theorem act_fields : Tryz.prog.underlying 71 = some (.struct (Tryz.prog.fieldsOf 71)) := by kernel_rfl
theorem act_list : (Tryz.prog.fieldsOf 71).toList.map (fun f => (f.name, f.type, f.offset)) = [("What", 3, 0), ("K", 3, 1), ("P", 3, 2), ("Op", 36, 3)] := by kernel_rfl
theorem act_size : Tryz.prog.cellsOf 3 = 1 ∧ Tryz.prog.cellsOf 36 = 1 := ⟨by kernel_rfl, by kernel_rfl⟩
section
variable {H : Type} {enc : TypeId × Value → H} {w : World} {base : Nat}
theorem open_act {n : Nat} {cs : List Value} {x : DataW H × List MemPlace} (h : DataW.trod enc Tryz.prog w base (fun _ => true) true n 71 cs = some x) :
    ∃ p : SAY, cs = p.cells ∧ p.Ok w := by
  obtain ⟨xs, n', _, rfl, hcs, hxs, hf⟩ := DataW.trod_struct act_fields h
  rw [act_cellsOf] at hcs
  obtain ⟨f0, f1, f2, f3, hl, h0, h1, h2, h3⟩ := four_of_map _ act_list
  simp only [Prod.mk.injEq] at h0 h1 h2 h3
  have hsz : (Tryz.prog.fieldsOf 71).size = 4 := by rw [← Array.length_toList, hl]; rfl
  rw [hsz] at hxs
  have g : ∀ i f, [f0, f1, f2, f3][i]? = some f → (Tryz.prog.fieldsOf 71)[i]? = some f := fun i f hi => by rw [← Array.getElem?_toList, hl]; exact hi
  match cs, hcs, xs, hxs with
  | [c0, c1, c2, c3], _, [x0, x1, x2, x3], _ =>
    have e0 := hf 0 f0 (g 0 f0 rfl)
    have e1 := hf 1 f1 (g 1 f1 rfl)
    have e2 := hf 2 f2 (g 2 f2 rfl)
    have e3 := hf 3 f3 (g 3 f3 rfl)
    rw [h0.2.1, h0.2.2, act_size.1] at e0
    rw [h1.2.1, h1.2.2, act_size.1] at e1
    rw [h2.2.1, h2.2.2, act_size.1] at e2
    rw [h3.2.1, h3.2.2, act_size.2] at e3
    obtain ⟨a, a1, rfl, a3⟩ := DataW.trod_int Tryz.underlying3 e0
    obtain ⟨b, b1, rfl, b3⟩ := DataW.trod_int Tryz.underlying3 e1
    obtain ⟨c, k1, rfl, k3⟩ := DataW.trod_int Tryz.underlying3 e2
    obtain ⟨v, m, l, he, hs, hln, hin⟩ := open_partsC e3
    simp at a1 b1 k1 he
    subst a1 b1 k1 he
    exact ⟨⟨a, b, c, c3, l⟩, by simp [SAY.cells], a3, b3, k3, by rw [hln]; exact hs, hin⟩
theorem open_acts {r : Reach} {b0 : Nat} {v : Value} {d : DataW H} {ps : List MemPlace}
    (hval : Value.okWide Tryz.prog w r b0 60 v) (hd : DataW.Trod enc Tryz.prog w base (fun _ => true) true 60 v d ps) :
    ∃ (n : Nat) (L : List SAY), Sl w 4 v n (says L) ∧ L.length = n ∧ ∀ p ∈ L, p.Ok w := by
  obtain ⟨a0, len, cap, rfl⟩ := okWide_slice Tryz.underlying60 hval
  obtain ⟨fuel, hf⟩ := hd
  rcases Go.Deep.open_slice Tryz.underlying60 hf with ⟨hcs, hx⟩ | ⟨a, len', cap', m, n, D, Pl, hcs, _, hl, hm, hmm, hx, hi⟩
  · simp [Value.cells] at hcs
    obtain ⟨rfl, rfl, rfl⟩ := hcs
    exact ⟨0, [], Sl.nil w 4, rfl, fun p hp => by simp at hp⟩
  · simp [Value.cells] at hcs
    obtain ⟨rfl, rfl, rfl⟩ := hcs
    simp only [if_true] at hmm
    subst hmm
    rw [act_cellsOf] at hi
    have hpt : ∀ i, ∃ p : SAY, i < len → (∀ j u, p.cells[j]? = some u → w.cell? (a.add (i * 4 + j)) = some u) ∧ p.Ok w := by
      intro i
      by_cases h : i < len
      · obtain ⟨cs', hc, ht⟩ := hi i (by omega)
        obtain ⟨p, rfl, hin⟩ := open_act ht
        obtain ⟨_, _, hat⟩ := World.cells?_some hc
        refine ⟨p, fun _ => ⟨fun j u hu => ?_, hin⟩⟩
        have hj : j < 4 := by
          rcases Nat.lt_or_ge j 4 with h | h
          · exact h
          · rw [List.getElem?_eq_none (by simpa [SAY.cells] using h)] at hu; cases hu
        rw [← add_of_add, hat j hj, hu]
      · exact ⟨⟨0, 0, 0, .slice none 0 0, []⟩, fun h' => absurd h' h⟩
    obtain ⟨f, hf'⟩ := Classical.axiomOfChoice hpt
    refine ⟨len, (List.range len).map f, ⟨some a, _, rfl, by rw [says_length]; simp, hl, hm, (fun h => nomatch h), fun hn => ⟨a, rfl, ?_, ?_⟩⟩, by simp, ?_⟩
    · have h1 := (hf' 0 hn).1 0 _ rfl
      have := World.block_lt_of_cell? w _ h1
      rw [block_of_add] at this
      exact this
    · intro j u hu
      have hj : j < len * 4 := by
        rcases Nat.lt_or_ge j (len * 4) with h | h
        · exact h
        · rw [List.getElem?_eq_none (by rw [says_length]; simpa using h)] at hu; cases hu
      have hk : j / 4 < ((List.range len).map f).length := by simp; omega
      have hg : ((List.range len).map f)[j / 4] = f (j / 4) := by simp
      obtain ⟨hc, _⟩ := hf' (j / 4) (by omega)
      have ho := says_at hk (j := j % 4) (by omega)
      rw [hg, show j / 4 * 4 + j % 4 = j from by omega, hu] at ho
      have := hc (j % 4) u ho.symm
      rwa [show j / 4 * 4 + j % 4 = j from by omega] at this
    · intro p hp
      obtain ⟨i, hi', rfl⟩ := List.mem_map.1 hp
      exact (hf' i (List.mem_range.1 hi')).2
end
end Go.Proofs.YtdgdajnbkfmijaaGreatDoor
