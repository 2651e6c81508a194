/- Texts of the proof. -/
import Derived.Test.YtdgdajnbkfmijaaGreatDoorM16
namespace Go.Proofs.YtdgdajnbkfmijaaGreatDoor
open Go.Proofs.Tryz
set_option maxRecDepth 100000
set_option maxHeartbeats 32000000
open Go.RowKit Go.Extern.Stop Go.Stop Go.Extern
def Hdl (w:World):Prop:=w.cell? ⟨0,0,none⟩=some (.iface 270 (.agg #[.pointer (some ⟨2,25,none⟩)]))
theorem Hdl.lt {w:World}(h:Hdl w):0<w.heap.size:=World.block_lt_of_cell? w ⟨0,0,none⟩ h
theorem Hdl.below {w w':World}(h:Hdl w)(hb:Below w.heap.size w w'):Hdl w':=(hb.cell (p:=⟨0,0,none⟩) h.lt).trans h
def asW (w:World)(t:Addr)(e:Int):World :=
 ((((w.alloc (.cells #[.pointer (some t)] 180)).alloc (.cells #[.pointer (some ⟨2,180,none⟩),.pointer (some ⟨w.heap.size,0,none⟩),.int .u64 150] 246)).alloc (.cells #[.pointer (some ⟨2,180,none⟩),.pointer (some ⟨w.heap.size,0,none⟩),.int .u64 150] 246)).alloc (.cells #[.int .i64 e] 29)).setCell t (.int .i64 e)
set_option maxHeartbeats 4000000 in
theorem Qva (e : Int) (t : Addr) (old : Value) (w : World) (hg : Hdl w) (ht0 : w.cell? t = some old) (hf0 : w.frozen? t = false) :
    Calls Tryz.prog 95 #[.iface 29 (.int .i64 e), .iface 180 (.pointer (some t))] w fun ev w' => ev = .returned (.bool true) ∧ w' = asW w t e := by
  unfold asW
  have h6 := @run_callFunc_extern Tryz.prog 141 _ (fun args => ReflectliteValue.unpack (args.getD 0 (.tuple #[]))) Tryz.func141 (by kernel_rfl) (by kernel_rfl) (by kernel_rfl) (by kernel_rfl)
  have h7 := @run_callFunc_extern Tryz.prog 142 _ (ReflectliteValue.methodAny (ReflectliteValue.valueError "reflectlite.Value.Type" 0) (fun t _ _ _ => ReflectliteType.toType t)) Tryz.func142 (by kernel_rfl) (by kernel_rfl) (by kernel_rfl) (by kernel_rfl)
  have h8 := @run_callFunc_extern Tryz.prog 143 _ (ReflectliteValue.method (ReflectliteValue.valueError "reflectlite.Value.IsNil" 0) ReflectliteValue.isNil) Tryz.func143 (by kernel_rfl) (by kernel_rfl) (by kernel_rfl) (by kernel_rfl)
  have h27 := @run_callFunc_extern Tryz.prog 194 _ (ReflectliteType.abiMethod fun t => do pure (.int .u8 (← Rtype.kind t))) Tryz.func194 (by kernel_rfl) (by kernel_rfl) (by kernel_rfl) (by kernel_rfl)
  have h37 := @run_callFunc_extern Tryz.prog 208 _ (ReflectliteType.method ReflectliteType.elem) Tryz.func208 (by kernel_rfl) (by kernel_rfl) (by kernel_rfl) (by kernel_rfl)
  have h38 := @run_callFunc_extern Tryz.prog 209 _ (ReflectliteType.relation "Implements" ReflectliteType.implements_) Tryz.func209 (by kernel_rfl) (by kernel_rfl) (by kernel_rfl) (by kernel_rfl)
  have h10 := @run_callFunc_extern Tryz.prog 164 _ ReflectliteType.typeOf Tryz.func164 (by kernel_rfl) (by kernel_rfl) (by kernel_rfl) (by kernel_rfl)
  have h35 := @run_callFunc_extern Tryz.prog 206 _ (ReflectliteType.relation "AssignableTo" ReflectliteType.assignableTo) Tryz.func206 (by kernel_rfl) (by kernel_rfl) (by kernel_rfl) (by kernel_rfl)
  have h11 := @run_callFunc_extern Tryz.prog 165 _ (ReflectliteValue.method (ReflectliteValue.valueError "reflectlite.Value.Elem" 0) ReflectliteValue.elem) Tryz.func165 (by kernel_rfl) (by kernel_rfl) (by kernel_rfl) (by kernel_rfl)
  have h12 := @run_callFunc_extern Tryz.prog 166 _ ReflectliteValue.set Tryz.func166 (by kernel_rfl) (by kernel_rfl) (by kernel_rfl) (by kernel_rfl)
  have tO := Qhj
  have mA := Qhc
  have a25 := Qhk
  have v25 := Qhl
  have f6 := Qg7
  have f7 := Qg8
  have mK := Qg9
  have mE := Qha
  have mI := Qhb
  have k27 := Qhd
  have k25 := Qhe
  have e27 := Qhh
  have i25 := Qhi
  have n8 := Qhg ⟨w.heap.size, 0, none⟩ t ((w.alloc (.cells #[.pointer (some t)] 180)).alloc (.cells #[.pointer (some ⟨2, 180, none⟩), .pointer (some ⟨w.heap.size, 0, none⟩), .int .u64 150] 246)) (by simp)
  have hlt := hg.lt
  have hg2 : ((w.alloc (.cells #[.pointer (some t)] 180)).alloc (.cells #[.pointer (some ⟨2, 180, none⟩), .pointer (some ⟨w.heap.size, 0, none⟩), .int .u64 150] 246)).cell? ⟨0, 0, none⟩ = some (.iface 270 (.agg #[.pointer (some ⟨2, 25, none⟩)])) := by
    rw [Wbj _ _ ⟨0, 0, none⟩ (by simp <;> omega), Wbj _ _ ⟨0, 0, none⟩ hlt]; exact hg
  have htl : t.block < w.heap.size := World.block_lt_of_cell? w t ht0
  have el := Qhm ⟨w.heap.size, 0, none⟩ t (((w.alloc (.cells #[.pointer (some t)] 180)).alloc (.cells #[.pointer (some ⟨2, 180, none⟩), .pointer (some ⟨w.heap.size, 0, none⟩), .int .u64 150] 246)).alloc (.cells #[.pointer (some ⟨2, 180, none⟩), .pointer (some ⟨w.heap.size, 0, none⟩), .int .u64 150] 246)) (by rw [Wbj _ _ ⟨w.heap.size, 0, none⟩ (by simp; omega)]; simp)
  have st := Qhn t ⟨w.heap.size + 1 + 1 + 1, 0, none⟩ e old ((((w.alloc (.cells #[.pointer (some t)] 180)).alloc (.cells #[.pointer (some ⟨2, 180, none⟩), .pointer (some ⟨w.heap.size, 0, none⟩), .int .u64 150] 246)).alloc (.cells #[.pointer (some ⟨2, 180, none⟩), .pointer (some ⟨w.heap.size, 0, none⟩), .int .u64 150] 246)).alloc (.cells #[.int .i64 e] 29))
    (by rw [World.cell?_alloc_at _ _ _ _ (by simp)]; rfl)
    (by rw [Wbj _ _ t (by simp; omega), Wbj _ _ t (by simp; omega), Wbj _ _ t (by simp; omega), Wbj _ _ t htl]; exact ht0)
    (by rw [World.frozen?_alloc_old _ _ t (by simp; omega), World.frozen?_alloc_old _ _ t (by simp; omega), World.frozen?_alloc_old _ _ t (by simp; omega), World.frozen?_alloc_old _ _ t (Nat.ne_of_lt htl)]; exact hf0)
  clear hg
  go_enter Tryz.func95, Tryz.ntmps95
  go_wp2
  refine wp_loop_rounds 1 ?_
  rw [rounds_succ]
  go_wp2
  go_ret
  exact ⟨rfl, rfl⟩
theorem Qvb (g:Nat)(w:World):(Instr.typeAssert (.iface 125 (.pointer (some ⟨g,0,none⟩))) 25 275 true).run prog w=.ok (.tuple #[.nilIface,.bool false]) w :=
 run_typeAssert_lacksB underlying275 (by kernel_rfl) (by kernel_rfl) _ _ w
theorem Qvc (g:Nat)(w:World):(Instr.typeAssert (.iface 125 (.pointer (some ⟨g,0,none⟩))) 25 172 true).run prog w=.ok (.tuple #[.iface 125 (.pointer (some ⟨g,0,none⟩)),.bool true]) w:=by kernel_rfl
theorem Qvd (h : Value) (w : World) : (Go.method 415 125 h "Unwrap").run Tryz.prog w = .ok (200, h) w := by kernel_rfl
set_option maxHeartbeats 4000000 in
theorem Qve (g : Nat) (e p : Int) (t : Addr) (old : Value) (w : World) (hg : Hdl w) (hat : QV w g e p) (ht0 : w.cell? t = some old) (hf0 : w.frozen? t = false) :
    Calls Tryz.prog 95 #[.iface 125 (.pointer (some ⟨g, 0, none⟩)), .iface 180 (.pointer (some t))] w fun ev w' => ev = .returned (.bool true) ∧ w' = asW w t e := by
  unfold asW
  have h6 := @run_callFunc_extern Tryz.prog 141 _ (fun args => ReflectliteValue.unpack (args.getD 0 (.tuple #[]))) Tryz.func141 (by kernel_rfl) (by kernel_rfl) (by kernel_rfl) (by kernel_rfl)
  have h7 := @run_callFunc_extern Tryz.prog 142 _ (ReflectliteValue.methodAny (ReflectliteValue.valueError "reflectlite.Value.Type" 0) (fun t _ _ _ => ReflectliteType.toType t)) Tryz.func142 (by kernel_rfl) (by kernel_rfl) (by kernel_rfl) (by kernel_rfl)
  have h8 := @run_callFunc_extern Tryz.prog 143 _ (ReflectliteValue.method (ReflectliteValue.valueError "reflectlite.Value.IsNil" 0) ReflectliteValue.isNil) Tryz.func143 (by kernel_rfl) (by kernel_rfl) (by kernel_rfl) (by kernel_rfl)
  have h27 := @run_callFunc_extern Tryz.prog 194 _ (ReflectliteType.abiMethod fun t => do pure (.int .u8 (← Rtype.kind t))) Tryz.func194 (by kernel_rfl) (by kernel_rfl) (by kernel_rfl) (by kernel_rfl)
  have h37 := @run_callFunc_extern Tryz.prog 208 _ (ReflectliteType.method ReflectliteType.elem) Tryz.func208 (by kernel_rfl) (by kernel_rfl) (by kernel_rfl) (by kernel_rfl)
  have h38 := @run_callFunc_extern Tryz.prog 209 _ (ReflectliteType.relation "Implements" ReflectliteType.implements_) Tryz.func209 (by kernel_rfl) (by kernel_rfl) (by kernel_rfl) (by kernel_rfl)
  have h10 := @run_callFunc_extern Tryz.prog 164 _ ReflectliteType.typeOf Tryz.func164 (by kernel_rfl) (by kernel_rfl) (by kernel_rfl) (by kernel_rfl)
  have h35 := @run_callFunc_extern Tryz.prog 206 _ (ReflectliteType.relation "AssignableTo" ReflectliteType.assignableTo) Tryz.func206 (by kernel_rfl) (by kernel_rfl) (by kernel_rfl) (by kernel_rfl)
  have h11 := @run_callFunc_extern Tryz.prog 165 _ (ReflectliteValue.method (ReflectliteValue.valueError "reflectlite.Value.Elem" 0) ReflectliteValue.elem) Tryz.func165 (by kernel_rfl) (by kernel_rfl) (by kernel_rfl) (by kernel_rfl)
  have h12 := @run_callFunc_extern Tryz.prog 166 _ ReflectliteValue.set Tryz.func166 (by kernel_rfl) (by kernel_rfl) (by kernel_rfl) (by kernel_rfl)
  have tO := Qhj
  have mA := Qhc
  have a25 := Qhk
  have v25 := Qhl
  have f6 := Qg7
  have f7 := Qg8
  have mK := Qg9
  have mE := Qha
  have mI := Qhb
  have k27 := Qhd
  have k25 := Qhe
  have e27 := Qhh
  have i25 := Qhi
  have n8 := Qhg ⟨w.heap.size, 0, none⟩ t ((w.alloc (.cells #[.pointer (some t)] 180)).alloc (.cells #[.pointer (some ⟨2, 180, none⟩), .pointer (some ⟨w.heap.size, 0, none⟩), .int .u64 150] 246)) (by simp)
  have hlt := hg.lt
  have hg2 : ((w.alloc (.cells #[.pointer (some t)] 180)).alloc (.cells #[.pointer (some ⟨2, 180, none⟩), .pointer (some ⟨w.heap.size, 0, none⟩), .int .u64 150] 246)).cell? ⟨0, 0, none⟩ = some (.iface 270 (.agg #[.pointer (some ⟨2, 25, none⟩)])) := by
    rw [Wbj _ _ ⟨0, 0, none⟩ (by simp <;> omega), Wbj _ _ ⟨0, 0, none⟩ hlt]; exact hg
  have htl : t.block < w.heap.size := World.block_lt_of_cell? w t ht0
  have el := Qhm ⟨w.heap.size, 0, none⟩ t (((w.alloc (.cells #[.pointer (some t)] 180)).alloc (.cells #[.pointer (some ⟨2, 180, none⟩), .pointer (some ⟨w.heap.size, 0, none⟩), .int .u64 150] 246)).alloc (.cells #[.pointer (some ⟨2, 180, none⟩), .pointer (some ⟨w.heap.size, 0, none⟩), .int .u64 150] 246)) (by rw [Wbj _ _ ⟨w.heap.size, 0, none⟩ (by simp; omega)]; simp)
  have st := Qhn t ⟨w.heap.size + 1 + 1 + 1, 0, none⟩ e old ((((w.alloc (.cells #[.pointer (some t)] 180)).alloc (.cells #[.pointer (some ⟨2, 180, none⟩), .pointer (some ⟨w.heap.size, 0, none⟩), .int .u64 150] 246)).alloc (.cells #[.pointer (some ⟨2, 180, none⟩), .pointer (some ⟨w.heap.size, 0, none⟩), .int .u64 150] 246)).alloc (.cells #[.int .i64 e] 29))
    (by rw [World.cell?_alloc_at _ _ _ _ (by simp)]; rfl)
    (by rw [Wbj _ _ t (by simp; omega), Wbj _ _ t (by simp; omega), Wbj _ _ t (by simp; omega), Wbj _ _ t htl]; exact ht0)
    (by rw [World.frozen?_alloc_old _ _ t (by simp; omega), World.frozen?_alloc_old _ _ t (by simp; omega), World.frozen?_alloc_old _ _ t (by simp; omega), World.frozen?_alloc_old _ _ t (Nat.ne_of_lt htl)]; exact hf0)
  have hgl : g < w.heap.size := (Wbm.1 hat).1
  have hgc : (((w.alloc (.cells #[.pointer (some t)] 180)).alloc (.cells #[.pointer (some ⟨2, 180, none⟩), .pointer (some ⟨w.heap.size, 0, none⟩), .int .u64 150] 246)).alloc (.cells #[.pointer (some ⟨2, 180, none⟩), .pointer (some ⟨w.heap.size, 0, none⟩), .int .u64 150] 246)).cell? ⟨g, 0, none⟩ = some (.int .i64 e) := by
    rw [Wbj _ _ ⟨g, 0, none⟩ (by simp; omega), Wbj _ _ ⟨g, 0, none⟩ (by simp; omega), Wbj _ _ ⟨g, 0, none⟩ hgl]
    unfold QV at hat
    simp [World.cell?, hat]
  have tA := Qpi
  have aA := Qpj
  have as1 := Qvb g
  have as2 := Qvc g
  have mU := Qvd
  clear hg hat
  go_enter Tryz.func95, Tryz.ntmps95
  go_wp2
  refine wp_loop_rounds 2 ?_
  rw [rounds_succ]
  go_wp2
  rw [rounds_succ]
  go_wp2
  go_ret
  exact ⟨rfl, rfl⟩
end Go.Proofs.YtdgdajnbkfmijaaGreatDoor
