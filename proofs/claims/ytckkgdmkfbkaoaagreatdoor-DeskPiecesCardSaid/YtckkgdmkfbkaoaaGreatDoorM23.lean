/- Texts of the proof. -/
import Derived.Test.YtckkgdmkfbkaoaaGreatDoorM19
namespace Go.Proofs.YtckkgdmkfbkaoaaGreatDoor
open Go.Proofs.Tryz
set_option maxRecDepth 100000
set_option maxHeartbeats 32000000
set_option linter.all false
open Go.RowKit Go.Extern.Stop Go.Stop Go.Extern
def Hdl (w:World):Prop:=w.cell? ⟨0,0,none⟩=some (.iface 347 (.agg #[.pointer (some ⟨9,24,none⟩)]))
theorem Hdl.lt {w:World}(h:Hdl w):0<w.heap.size:=World.block_lt_of_cell? w ⟨0,0,none⟩ h
theorem Hdl.below {w w':World}(h:Hdl w)(hb:Below w.heap.size w w'):Hdl w':=(hb.cell (p:=⟨0,0,none⟩) h.lt).trans h
def asW (w:World)(t:Addr)(e:Int):World :=
 ((((w.alloc (.cells #[.pointer (some t)] 236)).alloc (.cells #[.pointer (some ⟨9,236,none⟩),.pointer (some ⟨w.heap.size,0,none⟩),.int .u64 150] 281)).alloc (.cells #[.pointer (some ⟨9,236,none⟩),.pointer (some ⟨w.heap.size,0,none⟩),.int .u64 150] 281)).alloc (.cells #[.int .i64 e] 31)).setCell t (.int .i64 e)
set_option maxHeartbeats 4000000 in
theorem Qol (e : Int) (t : Addr) (old : Value) (w : World) (hg : Hdl w) (ht0 : w.cell? t = some old) (hf0 : w.frozen? t = false) :
    Calls Tryz.prog 138 #[.iface 31 (.int .i64 e), .iface 236 (.pointer (some t))] w fun ev w' => ev = .returned (.bool true) ∧ w' = asW w t e := by
  unfold asW
  have h6 := @run_callFunc_extern Tryz.prog 189 _ (fun args => ReflectliteValue.unpack (args.getD 0 (.tuple #[]))) Tryz.func189 (by kernel_rfl) (by kernel_rfl) (by kernel_rfl) (by kernel_rfl)
  have h7 := @run_callFunc_extern Tryz.prog 190 _ (ReflectliteValue.methodAny (ReflectliteValue.valueError "reflectlite.Value.Type" 0) (fun t _ _ _ => ReflectliteType.toType t)) Tryz.func190 (by kernel_rfl) (by kernel_rfl) (by kernel_rfl) (by kernel_rfl)
  have h8 := @run_callFunc_extern Tryz.prog 191 _ (ReflectliteValue.method (ReflectliteValue.valueError "reflectlite.Value.IsNil" 0) ReflectliteValue.isNil) Tryz.func191 (by kernel_rfl) (by kernel_rfl) (by kernel_rfl) (by kernel_rfl)
  have h27 := @run_callFunc_extern Tryz.prog 338 _ (ReflectliteType.abiMethod fun t => do pure (.int .u8 (← Rtype.kind t))) Tryz.func338 (by kernel_rfl) (by kernel_rfl) (by kernel_rfl) (by kernel_rfl)
  have h37 := @run_callFunc_extern Tryz.prog 366 _ (ReflectliteType.method ReflectliteType.elem) Tryz.func366 (by kernel_rfl) (by kernel_rfl) (by kernel_rfl) (by kernel_rfl)
  have h38 := @run_callFunc_extern Tryz.prog 367 _ (ReflectliteType.relation "Implements" ReflectliteType.implements_) Tryz.func367 (by kernel_rfl) (by kernel_rfl) (by kernel_rfl) (by kernel_rfl)
  have h10 := @run_callFunc_extern Tryz.prog 244 _ ReflectliteType.typeOf Tryz.func244 (by kernel_rfl) (by kernel_rfl) (by kernel_rfl) (by kernel_rfl)
  have h35 := @run_callFunc_extern Tryz.prog 364 _ (ReflectliteType.relation "AssignableTo" ReflectliteType.assignableTo) Tryz.func364 (by kernel_rfl) (by kernel_rfl) (by kernel_rfl) (by kernel_rfl)
  have h11 := @run_callFunc_extern Tryz.prog 245 _ (ReflectliteValue.method (ReflectliteValue.valueError "reflectlite.Value.Elem" 0) ReflectliteValue.elem) Tryz.func245 (by kernel_rfl) (by kernel_rfl) (by kernel_rfl) (by kernel_rfl)
  have h12 := @run_callFunc_extern Tryz.prog 246 _ ReflectliteValue.set Tryz.func246 (by kernel_rfl) (by kernel_rfl) (by kernel_rfl) (by kernel_rfl)
  have tO := Qh1
  have mA := Qhu
  have a25 := Qh2
  have v25 := Qh3
  have f6 := Qhp
  have f7 := Qhq
  have mK := Qhr
  have mE := Qhs
  have mI := Qht
  have k27 := Qhv
  have k25 := Qhw
  have e27 := Qhz
  have i25 := Qh0
  have n8 := Qhy ⟨w.heap.size, 0, none⟩ t ((w.alloc (.cells #[.pointer (some t)] 236)).alloc (.cells #[.pointer (some ⟨9, 236, none⟩), .pointer (some ⟨w.heap.size, 0, none⟩), .int .u64 150] 281)) (by simp)
  have hlt := hg.lt
  have hg2 : ((w.alloc (.cells #[.pointer (some t)] 236)).alloc (.cells #[.pointer (some ⟨9, 236, none⟩), .pointer (some ⟨w.heap.size, 0, none⟩), .int .u64 150] 281)).cell? ⟨0, 0, none⟩ = some (.iface 347 (.agg #[.pointer (some ⟨9, 24, none⟩)])) := by
    rw [Wbj _ _ ⟨0, 0, none⟩ (by simp <;> omega), Wbj _ _ ⟨0, 0, none⟩ hlt]; exact hg
  have htl : t.block < w.heap.size := World.block_lt_of_cell? w t ht0
  have el := Qh4 ⟨w.heap.size, 0, none⟩ t (((w.alloc (.cells #[.pointer (some t)] 236)).alloc (.cells #[.pointer (some ⟨9, 236, none⟩), .pointer (some ⟨w.heap.size, 0, none⟩), .int .u64 150] 281)).alloc (.cells #[.pointer (some ⟨9, 236, none⟩), .pointer (some ⟨w.heap.size, 0, none⟩), .int .u64 150] 281)) (by rw [Wbj _ _ ⟨w.heap.size, 0, none⟩ (by simp; omega)]; simp)
  have st := Qh5 t ⟨w.heap.size + 1 + 1 + 1, 0, none⟩ e old ((((w.alloc (.cells #[.pointer (some t)] 236)).alloc (.cells #[.pointer (some ⟨9, 236, none⟩), .pointer (some ⟨w.heap.size, 0, none⟩), .int .u64 150] 281)).alloc (.cells #[.pointer (some ⟨9, 236, none⟩), .pointer (some ⟨w.heap.size, 0, none⟩), .int .u64 150] 281)).alloc (.cells #[.int .i64 e] 31))
    (by rw [World.cell?_alloc_at _ _ _ _ (by simp)]; rfl)
    (by rw [Wbj _ _ t (by simp; omega), Wbj _ _ t (by simp; omega), Wbj _ _ t (by simp; omega), Wbj _ _ t htl]; exact ht0)
    (by rw [World.frozen?_alloc_old _ _ t (by simp; omega), World.frozen?_alloc_old _ _ t (by simp; omega), World.frozen?_alloc_old _ _ t (by simp; omega), World.frozen?_alloc_old _ _ t (Nat.ne_of_lt htl)]; exact hf0)
  clear hg
  go_enter Tryz.func138, Tryz.ntmps138
  go_wp2
  refine wp_loop_rounds 1 ?_
  rw [rounds_succ]
  go_wp2
  go_ret
  exact ⟨rfl, rfl⟩
theorem Qom (g:Nat)(w:World):(Instr.typeAssert (.iface 179 (.pointer (some ⟨g,0,none⟩))) 24 352 true).run prog w=.ok (.tuple #[.nilIface,.bool false]) w :=
 run_typeAssert_lacksB underlying352 (by kernel_rfl) (by kernel_rfl) _ _ w
theorem Qon (g:Nat)(w:World):(Instr.typeAssert (.iface 179 (.pointer (some ⟨g,0,none⟩))) 24 182 true).run prog w=.ok (.tuple #[.iface 179 (.pointer (some ⟨g,0,none⟩)),.bool true]) w:=by kernel_rfl
theorem Qoo (h : Value) (w : World) : (Go.method 581 179 h "Unwrap").run Tryz.prog w = .ok (344, h) w := by kernel_rfl
set_option maxHeartbeats 4000000 in
theorem Qop (g : Nat) (e p : Int) (t : Addr) (old : Value) (w : World) (hg : Hdl w) (hat : QU w g e p) (ht0 : w.cell? t = some old) (hf0 : w.frozen? t = false) :
    Calls Tryz.prog 138 #[.iface 179 (.pointer (some ⟨g, 0, none⟩)), .iface 236 (.pointer (some t))] w fun ev w' => ev = .returned (.bool true) ∧ w' = asW w t e := by
  unfold asW
  have h6 := @run_callFunc_extern Tryz.prog 189 _ (fun args => ReflectliteValue.unpack (args.getD 0 (.tuple #[]))) Tryz.func189 (by kernel_rfl) (by kernel_rfl) (by kernel_rfl) (by kernel_rfl)
  have h7 := @run_callFunc_extern Tryz.prog 190 _ (ReflectliteValue.methodAny (ReflectliteValue.valueError "reflectlite.Value.Type" 0) (fun t _ _ _ => ReflectliteType.toType t)) Tryz.func190 (by kernel_rfl) (by kernel_rfl) (by kernel_rfl) (by kernel_rfl)
  have h8 := @run_callFunc_extern Tryz.prog 191 _ (ReflectliteValue.method (ReflectliteValue.valueError "reflectlite.Value.IsNil" 0) ReflectliteValue.isNil) Tryz.func191 (by kernel_rfl) (by kernel_rfl) (by kernel_rfl) (by kernel_rfl)
  have h27 := @run_callFunc_extern Tryz.prog 338 _ (ReflectliteType.abiMethod fun t => do pure (.int .u8 (← Rtype.kind t))) Tryz.func338 (by kernel_rfl) (by kernel_rfl) (by kernel_rfl) (by kernel_rfl)
  have h37 := @run_callFunc_extern Tryz.prog 366 _ (ReflectliteType.method ReflectliteType.elem) Tryz.func366 (by kernel_rfl) (by kernel_rfl) (by kernel_rfl) (by kernel_rfl)
  have h38 := @run_callFunc_extern Tryz.prog 367 _ (ReflectliteType.relation "Implements" ReflectliteType.implements_) Tryz.func367 (by kernel_rfl) (by kernel_rfl) (by kernel_rfl) (by kernel_rfl)
  have h10 := @run_callFunc_extern Tryz.prog 244 _ ReflectliteType.typeOf Tryz.func244 (by kernel_rfl) (by kernel_rfl) (by kernel_rfl) (by kernel_rfl)
  have h35 := @run_callFunc_extern Tryz.prog 364 _ (ReflectliteType.relation "AssignableTo" ReflectliteType.assignableTo) Tryz.func364 (by kernel_rfl) (by kernel_rfl) (by kernel_rfl) (by kernel_rfl)
  have h11 := @run_callFunc_extern Tryz.prog 245 _ (ReflectliteValue.method (ReflectliteValue.valueError "reflectlite.Value.Elem" 0) ReflectliteValue.elem) Tryz.func245 (by kernel_rfl) (by kernel_rfl) (by kernel_rfl) (by kernel_rfl)
  have h12 := @run_callFunc_extern Tryz.prog 246 _ ReflectliteValue.set Tryz.func246 (by kernel_rfl) (by kernel_rfl) (by kernel_rfl) (by kernel_rfl)
  have tO := Qh1
  have mA := Qhu
  have a25 := Qh2
  have v25 := Qh3
  have f6 := Qhp
  have f7 := Qhq
  have mK := Qhr
  have mE := Qhs
  have mI := Qht
  have k27 := Qhv
  have k25 := Qhw
  have e27 := Qhz
  have i25 := Qh0
  have n8 := Qhy ⟨w.heap.size, 0, none⟩ t ((w.alloc (.cells #[.pointer (some t)] 236)).alloc (.cells #[.pointer (some ⟨9, 236, none⟩), .pointer (some ⟨w.heap.size, 0, none⟩), .int .u64 150] 281)) (by simp)
  have hlt := hg.lt
  have hg2 : ((w.alloc (.cells #[.pointer (some t)] 236)).alloc (.cells #[.pointer (some ⟨9, 236, none⟩), .pointer (some ⟨w.heap.size, 0, none⟩), .int .u64 150] 281)).cell? ⟨0, 0, none⟩ = some (.iface 347 (.agg #[.pointer (some ⟨9, 24, none⟩)])) := by
    rw [Wbj _ _ ⟨0, 0, none⟩ (by simp <;> omega), Wbj _ _ ⟨0, 0, none⟩ hlt]; exact hg
  have htl : t.block < w.heap.size := World.block_lt_of_cell? w t ht0
  have el := Qh4 ⟨w.heap.size, 0, none⟩ t (((w.alloc (.cells #[.pointer (some t)] 236)).alloc (.cells #[.pointer (some ⟨9, 236, none⟩), .pointer (some ⟨w.heap.size, 0, none⟩), .int .u64 150] 281)).alloc (.cells #[.pointer (some ⟨9, 236, none⟩), .pointer (some ⟨w.heap.size, 0, none⟩), .int .u64 150] 281)) (by rw [Wbj _ _ ⟨w.heap.size, 0, none⟩ (by simp; omega)]; simp)
  have st := Qh5 t ⟨w.heap.size + 1 + 1 + 1, 0, none⟩ e old ((((w.alloc (.cells #[.pointer (some t)] 236)).alloc (.cells #[.pointer (some ⟨9, 236, none⟩), .pointer (some ⟨w.heap.size, 0, none⟩), .int .u64 150] 281)).alloc (.cells #[.pointer (some ⟨9, 236, none⟩), .pointer (some ⟨w.heap.size, 0, none⟩), .int .u64 150] 281)).alloc (.cells #[.int .i64 e] 31))
    (by rw [World.cell?_alloc_at _ _ _ _ (by simp)]; rfl)
    (by rw [Wbj _ _ t (by simp; omega), Wbj _ _ t (by simp; omega), Wbj _ _ t (by simp; omega), Wbj _ _ t htl]; exact ht0)
    (by rw [World.frozen?_alloc_old _ _ t (by simp; omega), World.frozen?_alloc_old _ _ t (by simp; omega), World.frozen?_alloc_old _ _ t (by simp; omega), World.frozen?_alloc_old _ _ t (Nat.ne_of_lt htl)]; exact hf0)
  have hgl : g < w.heap.size := (Wbm.1 hat).1
  have hgc : (((w.alloc (.cells #[.pointer (some t)] 236)).alloc (.cells #[.pointer (some ⟨9, 236, none⟩), .pointer (some ⟨w.heap.size, 0, none⟩), .int .u64 150] 281)).alloc (.cells #[.pointer (some ⟨9, 236, none⟩), .pointer (some ⟨w.heap.size, 0, none⟩), .int .u64 150] 281)).cell? ⟨g, 0, none⟩ = some (.int .i64 e) := by
    rw [Wbj _ _ ⟨g, 0, none⟩ (by simp; omega), Wbj _ _ ⟨g, 0, none⟩ (by simp; omega), Wbj _ _ ⟨g, 0, none⟩ hgl]
    unfold QU at hat
    simp [World.cell?, hat]
  have tA := Qsq
  have aA := Qsr
  have as1 := Qom g
  have as2 := Qon g
  have mU := Qoo
  clear hg hat
  go_enter Tryz.func138, Tryz.ntmps138
  go_wp2
  refine wp_loop_rounds 2 ?_
  rw [rounds_succ]
  go_wp2
  rw [rounds_succ]
  go_wp2
  go_ret
  exact ⟨rfl, rfl⟩
end Go.Proofs.YtckkgdmkfbkaoaaGreatDoor
