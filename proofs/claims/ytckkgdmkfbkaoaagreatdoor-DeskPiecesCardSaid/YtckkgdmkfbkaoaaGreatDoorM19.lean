/- Texts of the proof. -/
import Derived.Test.YtckkgdmkfbkaoaaGreatDoorM11
import Derived.Lib.QuietBelowIn
import Derived.Sort.BigQuietIn
import Derived.Sort.Grow
import Derived.LaidEql
import Derived.Stop.Asserts
import Derived.RowKitTokens
namespace Go.Proofs.YtckkgdmkfbkaoaaGreatDoor
open Go.Proofs.Tryz
set_option maxRecDepth 100000
set_option maxHeartbeats 32000000
set_option linter.all false
section
open Go.RowKit Go.Shelf Go.Sort
section
variable {F:Fence}{n:Nat}{P:Program}{ops:Array Oper}{md:Region.Mode}{C:World→Prop}{l:Nat}
theorem Qvn {o:Oper}{a:Act}{K:Act→Prop}{K':Act→World→Prop}{Q':Exit→Act→World→Prop}{w:World}(hnd:∀ c,o.op≠.defer c)(hw:C w)(h:∀ a w',C w'→K a→K' a w')
  (ha:o.askedIn F P a C) (hh:o.quietIn F n P a C K):o.wpIn (F.inRound l) n P a w K' Q':=by
 obtain⟨v,h1,h2⟩:=hh;have h3:=h1 w hw;unfold Oper.quietAtIn at h3;unfold Oper.wpIn;refine⟨ha w hw,?_⟩;rw[Fence.inRound_round,Oper.semAt_some _ _ _ hnd];generalize (execOp a.eval o).run P w=r at *
 cases r with
 | ok x w' =>
  cases x<;>simp only[Oper.quietUponIn] at h3<;>simp only[Oper.uponIn]
  case value u =>
   obtain⟨e1,e2⟩:=h3;rw[e1,e2];exact h _ _ hw h2
  case skip =>
   obtain⟨e1,e2⟩:=h3;rw[e1,← e2];exact h _ _ hw h2
  case enter f args =>
   obtain⟨e1,hd,hc⟩:=h3;rw[e1]
   exact⟨hd,CallsIn.inRound l (hc.mono fun e w'' ⟨he,hw''⟩=>by subst he;exact h _ _ hw'' h2)⟩
 | halt x w'=>simp only[Oper.quietUponIn] at h3
theorem Qjf {Q:Act→Prop}{Q':Exit→Act→World→Prop}(hnd:∀ (i:Nat) (o:Oper),ops[i]?=some o→∀ c,o.op≠.defer c)(hQ:∀ a w,C w→Q a→Q' .normal a w):∀ (fuel:Nat) (listed:Array Bool) (a:Act) (w:World),C w →
  wpAnyQIn F n P md ops C Q fuel listed a→wpAnyIn (F.inRound l) n P md ops Q' fuel listed a w
 | 0,_,_,_,hw,h=>⟨h.1,hQ _ _ hw h.2⟩
 | fuel+1,listed,_,_,hw,h=>⟨fun h0=>hQ _ _ hw (h.1 h0),fun i hi=>by
   have hh:=h.2 i hi;have ih:=fun a' w' hw'=>Qjf hnd hQ fuel (listed.setIfInBounds i true) a' w' hw'
   unfold qOpIn at hh;unfold wpOpIn
   split
   ·rename_i ho;simp only[ho] at hh;exact ih _ _ hw hh
   ·rename_i o ho
    simp only[ho] at hh;obtain⟨ha,hh⟩:=hh
    split
    ·rename_i hw';simp only[hw',if_true] at hh;exact Qvn (hnd _ _ ho) hw ih ha hh
    ·rename_i hw';simp only[hw'] at hh;exact⟨ha _ hw,ih _ _ hw hh⟩⟩
theorem Qjg {id:Nat}{Q:Exit→Act→World→Prop}{a:Act}{w:World}{ol:List Oper}(hm:P.follows .mixedOrders=true)(hB:Region.lexB .any ol.toArray=true)(hnd:ol.all (fun o:Oper=>match o.op with | .defer _=>false | _=>true)=true)
  (h:wpQuietIn F n P ol.toArray (fun w'=>∃ p:Regrown,w'=grow (redrawn w p.d) p.os) (fun a'=>∀ w',(∃ p:Regrown,w'=grow (redrawn w p.d) p.os)→Q .normal a' w') ol a):(Code.region id ol.toArray true).wpIn (F.inRound l) n P Q a w:=by
 simp only[Region.lexB,Bool.and_eq_true] at hB;refine wpIn_region_any hm (Qjf (Q:=fun a'=>∀ w',(∃ p:Regrown,w'=grow (redrawn w p.d) p.os)→Q .normal a' w') ?_ (fun _ w' hw' h=>h w' hw') _ _ _ _ ⟨⟨w.drawn+1,#[]⟩,by rw[grow_empty];rfl⟩ ?_)
 ·intro i o ho c hc;simp only[Wab] at ho
  have:=List.all_eq_true.1 hnd o (List.mem_of_getElem? ho)
  rw[hc] at this
  cases this
 ·have:=wpAnyQIn_lex (F:=F) (n:=n) (C:=fun w'=>∃ p:Regrown,w'=grow (redrawn w p.d) p.os) (md:=.any) hB.1 ol.toArray.toList 0 (Array.replicate ol.toArray.size false) a (by simp) (by simpa using hB.2) (by simpa using h)
  simpa using this
end
section
variable {P:Program}{n:Nat}{g:Operand}{ps:Array Tmp}{assign body:Code}{Q:Exit→Act→World→Prop}{a:Act}{w:World}
def Qvo (P:Program)(n gf:Nat)(lb:Array Value)(xs:Nat→Array Value)(N iB:Nat)(w:World):Prop :=
 ∀ (l:Nat) (J Jx:Nat→World→Prop) (W:World),Below w.heap.size w W→(∀ k A B,J k A→Below W.heap.size A B→J k B) →
  (∀ k A,k<N→J k A→YieldAt Fence.wide (n-1) P l (xs k) A fun e A'=>(e=.returned (.bool true)∧J (k+1) A'∧KpB iB A A')∨(e=.returned (.bool false)∧Jx (k+1) A')) →
  J 0 W→CallsIn Fence.wide n P gf (#[.func (.yield l) #[] #[]]++lb) W fun e W'=>(∃ v,e=.returned v)∧(J N W'∨∃ k,k≤N∧Jx k W')
theorem Xc {B:Nat}(W:World)(l:Nat)(o:Obj)(h:B≤l):Below B W (W.putObj l o) :=
 ⟨rfl,rfl,rfl,by simp,fun _ hk=>World.putObj_heap_other (by omega)⟩
end
end
section
open Go.RowKit Go.Extern.Stop Go.Stop Go.Extern
theorem Qhp (t:Addr)(w:World):(ReflectliteValue.unpack (.iface 236 (.pointer (some t)))).run prog w
  = .ok (.agg #[.pointer (some ⟨9,236,none⟩),.pointer (some ⟨w.heap.size,0,none⟩),.int .u64 150]) (w.alloc (.cells #[.pointer (some t)] 236)):=by kernel_rfl
theorem Qhq (a : Addr) (w : World) : (ReflectliteValue.methodAny (ReflectliteValue.valueError "reflectlite.Value.Type" 0) (fun t _ _ _ => ReflectliteType.toType t) #[.agg #[.pointer (some ⟨9, 236, none⟩), .pointer (some a), .int .u64 150]]).run Tryz.prog w
    = .ok (.iface 347 (.agg #[.pointer (some ⟨9, 236, none⟩)])) w := by kernel_rfl
theorem Qhr (h : Value) (w : World) : (Go.method 581 347 (.agg #[h]) "Kind").run Tryz.prog w = .ok (338, h) w := by kernel_rfl
theorem Qhs (h : Value) (w : World) : (Go.method 581 347 (.agg #[h]) "Elem").run Tryz.prog w = .ok (366, .agg #[h]) w := by kernel_rfl
theorem Qht (h : Value) (w : World) : (Go.method 581 347 (.agg #[h]) "Implements").run Tryz.prog w = .ok (367, .agg #[h]) w := by kernel_rfl
theorem Qhu (h : Value) (w : World) : (Go.method 581 347 (.agg #[h]) "AssignableTo").run Tryz.prog w = .ok (364, .agg #[h]) w := by kernel_rfl
theorem Qhv (w:World):((ReflectliteType.abiMethod fun t=>(fun a:Nat=>Value.int IntKind.u8 (a:Int)) <$> Rtype.kind t) #[.pointer (some ⟨9,236,none⟩)]).run prog w=.ok (.int .u8 22) w:=by kernel_rfl
theorem Qhw (w:World):((ReflectliteType.abiMethod fun t=>(fun a:Nat=>Value.int IntKind.u8 (a:Int)) <$> Rtype.kind t) #[.pointer (some ⟨9,31,none⟩)]).run prog w=.ok (.int .u8 2) w:=by kernel_rfl
theorem rlm (z:Sem Value)(f:TypeId→Addr→Nat→Nat→Sem Value)(v:Value) :
  ReflectliteValue.method z f #[v]=(do match ← ReflectliteValue.parts v with | none=>z | some (t,a,fl)=>f t a fl (fl % 32)):=rfl
theorem Qhx (a:Addr)(w:World):(ReflectliteValue.parts (.agg #[.pointer (some ⟨9,236,none⟩),.pointer (some a),.int .u64 150])).run prog w=.ok (some (236,a,150)) w:=by kernel_rfl
theorem Qhy (a p : Addr) (W : World) (ha : W.cell? a = some (.pointer (some p))) :
    (ReflectliteValue.method (ReflectliteValue.valueError "reflectlite.Value.IsNil" 0) ReflectliteValue.isNil #[.agg #[.pointer (some ⟨9, 236, none⟩), .pointer (some a), .int .u64 150]]).run Tryz.prog W = .ok (.bool false) W := by
  rw [rlm]
  simp only [Sem.run_bind, Qhx, Result.andThen]
  simp [ReflectliteValue.isNil, loadVar, isAgg, underlying, Tryz.underlying236, ha, Result.andThen]
theorem Qhz (w:World):(ReflectliteType.method ReflectliteType.elem #[.agg #[.pointer (some ⟨9,236,none⟩)]]).run prog w=.ok (.iface 347 (.agg #[.pointer (some ⟨9,31,none⟩)])) w:=by kernel_rfl
theorem Qh0 (w : World) : (ReflectliteType.relation "Implements" ReflectliteType.implements_ #[.agg #[.pointer (some ⟨9, 31, none⟩)], .iface 347 (.agg #[.pointer (some ⟨9, 24, none⟩)])]).run Tryz.prog w = .ok (.bool true) w := by kernel_rfl
theorem Qh1 (v:Value)(w:World):(ReflectliteType.typeOf #[.iface 31 v]).run prog w=.ok (.iface 347 (.agg #[.pointer (some ⟨9,31,none⟩)])) w:=by kernel_rfl
theorem Qsq (v:Value)(w:World):(ReflectliteType.typeOf #[.iface 179 v]).run prog w=.ok (.iface 347 (.agg #[.pointer (some ⟨9,179,none⟩)])) w:=by kernel_rfl
theorem Qh2 (w : World) : (ReflectliteType.relation "AssignableTo" ReflectliteType.assignableTo #[.agg #[.pointer (some ⟨9, 31, none⟩)], .iface 347 (.agg #[.pointer (some ⟨9, 31, none⟩)])]).run Tryz.prog w = .ok (.bool true) w := by kernel_rfl
theorem Qsr (w : World) : (ReflectliteType.relation "AssignableTo" ReflectliteType.assignableTo #[.agg #[.pointer (some ⟨9, 179, none⟩)], .iface 347 (.agg #[.pointer (some ⟨9, 31, none⟩)])]).run Tryz.prog w = .ok (.bool false) w := by kernel_rfl
theorem Qh3 (e:Int)(w:World):(ReflectliteValue.unpack (.iface 31 (.int .i64 e))).run prog w
  = .ok (.agg #[.pointer (some ⟨9,31,none⟩),.pointer (some ⟨w.heap.size,0,none⟩),.int .u64 130]) (w.alloc (.cells #[.int .i64 e] 31)):=by kernel_rfl
theorem Qss (w:World):(Rtype.elem? 236).run prog w=.ok (some 31) w:=by kernel_rfl
theorem Qst (p:Addr)(w:World):(ReflectliteValue.mk 31 p ReflectliteValue.flagAddr).run prog w=.ok (.agg #[.pointer (some ⟨9,31,none⟩),.pointer (some p),.int .u64 386]) w:=by kernel_rfl
theorem Qh4 (a p : Addr) (W : World) (ha : W.cell? a = some (.pointer (some p))) :
    (ReflectliteValue.method (ReflectliteValue.valueError "reflectlite.Value.Elem" 0) ReflectliteValue.elem #[.agg #[.pointer (some ⟨9, 236, none⟩), .pointer (some a), .int .u64 150]]).run Tryz.prog W
      = .ok (.agg #[.pointer (some ⟨9, 31, none⟩), .pointer (some p), .int .u64 386]) W := by
  rw [rlm]
  simp only [Sem.run_bind, Qhx, Result.andThen]
  simp [ReflectliteValue.elem, loadVar, isAgg, underlying, Tryz.underlying236, ha, Result.andThen, Qss, Qst]
theorem rls (v x : Value) : ReflectliteValue.set #[v, x] = (do
    let (some (dst, a, fl), some (src, b, _)) := (← ReflectliteValue.parts v, ← ReflectliteValue.parts x)
      | unsupported (.noEntry "extern/(internal/reflectlite.Value).Set.zeroValue")
    if fl / ReflectliteValue.flagAddr % 2 == 0 then unsupported (.noEntry "extern/(internal/reflectlite.Value).Set.unaddressable")
    let val ← loadVar src b
    if ← Rtype.directlyAssignable dst src then storeVar dst a val
    else if ← Rtype.implements dst src then
      if (← Rtype.kind src) == 20 then
        match val with
        | .nilIface => unsupported (.noEntry "extern/reflectlite: a nil value of one interface type handed on as a value of another")
        | _ => storeVar dst a val
      else storeVar dst a (.iface src val)
    else panicString ("reflectlite.Set: value of type " ++ (← Rtype.spelt src) ++ " is not assignable to type " ++ (← Rtype.spelt dst))
    pure (.tuple #[])) := rfl
theorem Qsu (a:Addr)(w:World):(ReflectliteValue.parts (.agg #[.pointer (some ⟨9,31,none⟩),.pointer (some a),.int .u64 386])).run prog w=.ok (some (31,a,386)) w:=by kernel_rfl
theorem Qsv (a:Addr)(w:World):(ReflectliteValue.parts (.agg #[.pointer (some ⟨9,31,none⟩),.pointer (some a),.int .u64 130])).run prog w=.ok (some (31,a,130)) w:=by kernel_rfl
theorem Qsw (w:World):(Rtype.directlyAssignable 31 31).run prog w=.ok true w:=by kernel_rfl
theorem Qh5 (ta b:Addr)(e:Int)(old:Value)(W:World)(hb:W.cell? b=some (.int .i64 e))(ht:W.cell? ta=some old)(hf:W.frozen? ta=false) :
  (ReflectliteValue.set #[.agg #[.pointer (some ⟨9,31,none⟩),.pointer (some ta),.int .u64 386],.agg #[.pointer (some ⟨9,31,none⟩),.pointer (some b),.int .u64 130]]).run prog W
   = .ok (.tuple #[]) (W.setCell ta (.int .i64 e)):=by
 rw[rls];simp only[Sem.run_bind,Qsu,Qsv,Result.andThen];simp[ReflectliteValue.flagAddr,loadVar,isAgg,underlying,underlying31,hb,Result.andThen,Qsw,storeVar,Value.cells,storeCells,Addr.add]
 rw[run_store prog W ta _ _ (by rfl)];simp[ht,hf]
end
end Go.Proofs.YtckkgdmkfbkaoaaGreatDoor
