/- Texts of the proof. -/
import Derived.LaidEql
import Derived.Stop.Asserts
import Derived.RowKitTokens
import Derived.Test.YtdgdajnbkfmijaaGreatDoorM3
import Derived.Laws.StructEq
import Derived.Test.YtdgdajnbkfmijaaGreatDoorM9
import Derived.Lib.QuietBelowIn
import Derived.Sort.BigQuietIn
import Derived.Sort.Grow
import Derived.Test.YtdgdajnbkfmijaaGreatDoorRows
import Derived.Deep.Slices
import Derived.ChangeArms
namespace Go.Proofs.YtdgdajnbkfmijaaGreatDoor
open Go.Proofs.Tryz
set_option maxRecDepth 100000
set_option maxHeartbeats 32000000
section
open Go.RowKit Go.Extern.Stop Go.Stop Go.Extern
theorem Qg7 (t:Addr)(w:World):(ReflectliteValue.unpack (.iface 180 (.pointer (some t)))).run prog w
  = .ok (.agg #[.pointer (some ⟨2,180,none⟩),.pointer (some ⟨w.heap.size,0,none⟩),.int .u64 150]) (w.alloc (.cells #[.pointer (some t)] 180)):=by kernel_rfl
theorem Qg8 (a : Addr) (w : World) : (ReflectliteValue.methodAny (ReflectliteValue.valueError "reflectlite.Value.Type" 0) (fun t _ _ _ => ReflectliteType.toType t) #[.agg #[.pointer (some ⟨2, 180, none⟩), .pointer (some a), .int .u64 150]]).run Tryz.prog w
    = .ok (.iface 270 (.agg #[.pointer (some ⟨2, 180, none⟩)])) w := by kernel_rfl
theorem Qg9 (h : Value) (w : World) : (Go.method 415 270 (.agg #[h]) "Kind").run Tryz.prog w = .ok (194, h) w := by kernel_rfl
theorem Qha (h : Value) (w : World) : (Go.method 415 270 (.agg #[h]) "Elem").run Tryz.prog w = .ok (208, .agg #[h]) w := by kernel_rfl
theorem Qhb (h : Value) (w : World) : (Go.method 415 270 (.agg #[h]) "Implements").run Tryz.prog w = .ok (209, .agg #[h]) w := by kernel_rfl
theorem Qhc (h : Value) (w : World) : (Go.method 415 270 (.agg #[h]) "AssignableTo").run Tryz.prog w = .ok (206, .agg #[h]) w := by kernel_rfl
theorem Qhd (w:World):((ReflectliteType.abiMethod fun t=>(fun a:Nat=>Value.int IntKind.u8 (a:Int)) <$> Rtype.kind t) #[.pointer (some ⟨2,180,none⟩)]).run prog w=.ok (.int .u8 22) w:=by kernel_rfl
theorem Qhe (w:World):((ReflectliteType.abiMethod fun t=>(fun a:Nat=>Value.int IntKind.u8 (a:Int)) <$> Rtype.kind t) #[.pointer (some ⟨2,29,none⟩)]).run prog w=.ok (.int .u8 2) w:=by kernel_rfl
theorem rlm (z:Sem Value)(f:TypeId→Addr→Nat→Nat→Sem Value)(v:Value) :
  ReflectliteValue.method z f #[v]=(do match ← ReflectliteValue.parts v with | none=>z | some (t,a,fl)=>f t a fl (fl % 32)):=rfl
theorem Qhf (a:Addr)(w:World):(ReflectliteValue.parts (.agg #[.pointer (some ⟨2,180,none⟩),.pointer (some a),.int .u64 150])).run prog w=.ok (some (180,a,150)) w:=by kernel_rfl
theorem Qhg (a p : Addr) (W : World) (ha : W.cell? a = some (.pointer (some p))) :
    (ReflectliteValue.method (ReflectliteValue.valueError "reflectlite.Value.IsNil" 0) ReflectliteValue.isNil #[.agg #[.pointer (some ⟨2, 180, none⟩), .pointer (some a), .int .u64 150]]).run Tryz.prog W = .ok (.bool false) W := by
  rw [rlm]
  simp only [Sem.run_bind, Qhf, Result.andThen]
  simp [ReflectliteValue.isNil, loadVar, isAgg, underlying, Tryz.underlying180, ha, Result.andThen]
theorem Qhh (w:World):(ReflectliteType.method ReflectliteType.elem #[.agg #[.pointer (some ⟨2,180,none⟩)]]).run prog w=.ok (.iface 270 (.agg #[.pointer (some ⟨2,29,none⟩)])) w:=by kernel_rfl
theorem Qhi (w : World) : (ReflectliteType.relation "Implements" ReflectliteType.implements_ #[.agg #[.pointer (some ⟨2, 29, none⟩)], .iface 270 (.agg #[.pointer (some ⟨2, 25, none⟩)])]).run Tryz.prog w = .ok (.bool true) w := by kernel_rfl
theorem Qhj (v:Value)(w:World):(ReflectliteType.typeOf #[.iface 29 v]).run prog w=.ok (.iface 270 (.agg #[.pointer (some ⟨2,29,none⟩)])) w:=by kernel_rfl
theorem Qpi (v:Value)(w:World):(ReflectliteType.typeOf #[.iface 125 v]).run prog w=.ok (.iface 270 (.agg #[.pointer (some ⟨2,125,none⟩)])) w:=by kernel_rfl
theorem Qhk (w : World) : (ReflectliteType.relation "AssignableTo" ReflectliteType.assignableTo #[.agg #[.pointer (some ⟨2, 29, none⟩)], .iface 270 (.agg #[.pointer (some ⟨2, 29, none⟩)])]).run Tryz.prog w = .ok (.bool true) w := by kernel_rfl
theorem Qpj (w : World) : (ReflectliteType.relation "AssignableTo" ReflectliteType.assignableTo #[.agg #[.pointer (some ⟨2, 125, none⟩)], .iface 270 (.agg #[.pointer (some ⟨2, 29, none⟩)])]).run Tryz.prog w = .ok (.bool false) w := by kernel_rfl
theorem Qhl (e:Int)(w:World):(ReflectliteValue.unpack (.iface 29 (.int .i64 e))).run prog w
  = .ok (.agg #[.pointer (some ⟨2,29,none⟩),.pointer (some ⟨w.heap.size,0,none⟩),.int .u64 130]) (w.alloc (.cells #[.int .i64 e] 29)):=by kernel_rfl
theorem Qpk (w:World):(Rtype.elem? 180).run prog w=.ok (some 29) w:=by kernel_rfl
theorem Qpl (p:Addr)(w:World):(ReflectliteValue.mk 29 p ReflectliteValue.flagAddr).run prog w=.ok (.agg #[.pointer (some ⟨2,29,none⟩),.pointer (some p),.int .u64 386]) w:=by kernel_rfl
theorem Qhm (a p : Addr) (W : World) (ha : W.cell? a = some (.pointer (some p))) :
    (ReflectliteValue.method (ReflectliteValue.valueError "reflectlite.Value.Elem" 0) ReflectliteValue.elem #[.agg #[.pointer (some ⟨2, 180, none⟩), .pointer (some a), .int .u64 150]]).run Tryz.prog W
      = .ok (.agg #[.pointer (some ⟨2, 29, none⟩), .pointer (some p), .int .u64 386]) W := by
  rw [rlm]
  simp only [Sem.run_bind, Qhf, Result.andThen]
  simp [ReflectliteValue.elem, loadVar, isAgg, underlying, Tryz.underlying180, ha, Result.andThen, Qpk, Qpl]
theorem rls (v x : Value) : ReflectliteValue.set #[v, x] = (do
    let (some (dst, a, fl), some (src, b, _)) := (← ReflectliteValue.parts v, ← ReflectliteValue.parts x)
      | unsupported (.noEntry "extern/(internal/reflectlite.Value).Set.zeroValue")
    if fl / ReflectliteValue.flagAddr % 2 == 0 then unsupported (.noEntry "extern/(internal/reflectlite.Value).Set.unaddressable")
    let val ← loadVar src b
    if ← Rtype.directlyAssignable dst src then storeVar dst a val
    else if ← Rtype.implements dst src then
      if (← Rtype.kind src) == 20 then
        match val with
        | .nilIface => unsupported (.noEntry "extern/reflectlite: a nil value of one interface type handed on as a value of another")
        | _ => storeVar dst a val
      else storeVar dst a (.iface src val)
    else panicString ("reflectlite.Set: value of type " ++ (← Rtype.spelt src) ++ " is not assignable to type " ++ (← Rtype.spelt dst))
    pure (.tuple #[])) := rfl
theorem Qpm (a:Addr)(w:World):(ReflectliteValue.parts (.agg #[.pointer (some ⟨2,29,none⟩),.pointer (some a),.int .u64 386])).run prog w=.ok (some (29,a,386)) w:=by kernel_rfl
theorem Qpn (a:Addr)(w:World):(ReflectliteValue.parts (.agg #[.pointer (some ⟨2,29,none⟩),.pointer (some a),.int .u64 130])).run prog w=.ok (some (29,a,130)) w:=by kernel_rfl
theorem Qpo (w:World):(Rtype.directlyAssignable 29 29).run prog w=.ok true w:=by kernel_rfl
theorem Qhn (ta b:Addr)(e:Int)(old:Value)(W:World)(hb:W.cell? b=some (.int .i64 e))(ht:W.cell? ta=some old)(hf:W.frozen? ta=false) :
  (ReflectliteValue.set #[.agg #[.pointer (some ⟨2,29,none⟩),.pointer (some ta),.int .u64 386],.agg #[.pointer (some ⟨2,29,none⟩),.pointer (some b),.int .u64 130]]).run prog W
   = .ok (.tuple #[]) (W.setCell ta (.int .i64 e)):=by
 rw[rls];simp only[Sem.run_bind,Qpm,Qpn,Result.andThen];simp[ReflectliteValue.flagAddr,loadVar,isAgg,underlying,underlying29,hb,Result.andThen,Qpo,storeVar,Value.cells,storeCells,Addr.add]
 rw[run_store prog W ta _ _ (by rfl)];simp[ht,hf]
end
section
open Go.RowKit
theorem Qun:prog.underlying 113=some (.struct (prog.fieldsOf 113)):=by kernel_rfl
theorem Quo : (Tryz.prog.fieldsOf 113).toList.map (fun f => (f.name, f.type, f.offset)) = [("Keep", 3, 0), ("Drop", 3, 1), ("Put", 9, 2)] := by kernel_rfl
theorem Qj8 {α β:Type}(f:α→β){l:List α}{a b c:β}(h:l.map f=[a,b,c]):∃ x0 x1 x2,l=[x0,x1,x2]∧f x0=a∧f x1=b∧f x2=c:=by
 match l,h with
 | [],h=>simp at h
 | [_],h=>simp at h
 | [_,_],h=>simp at h
 | [x0,x1,x2],h =>
  simp only[List.map_cons,List.map_nil,List.cons.injEq,and_true] at h
  exact⟨x0,x1,x2,rfl,h.1,h.2.1,h.2.2⟩
 | _ :: _ :: _ :: _ :: _,h=>simp at h
theorem Qup : ∃ f0 f1 f2, (Tryz.prog.fieldsOf 113).toList = [f0, f1, f2] ∧ (f0.name, f0.type, f0.offset) = ("Keep", 3, 0) ∧ (f1.name, f1.type, f1.offset) = ("Drop", 3, 1) ∧ (f2.name, f2.type, f2.offset) = ("Put", 9, 2) := by
  exact Qj8 _ Quo
end
section
open Go.RowKit Go.Shelf Go.Sort
section
variable {F:Fence}{n:Nat}{P:Program}{ops:Array Oper}{md:Region.Mode}{C:World→Prop}{l:Nat}
theorem Qql {o:Oper}{a:Act}{K:Act→Prop}{K':Act→World→Prop}{Q':Exit→Act→World→Prop}{w:World}(hnd:∀ c,o.op≠.defer c)(hw:C w)(h:∀ a w',C w'→K a→K' a w')
  (ha:o.askedIn F P a C) (hh:o.quietIn F n P a C K):o.wpIn (F.inRound l) n P a w K' Q':=by
 obtain⟨v,h1,h2⟩:=hh;have h3:=h1 w hw;unfold Oper.quietAtIn at h3;unfold Oper.wpIn;refine⟨ha w hw,?_⟩;rw[Fence.inRound_round,Oper.semAt_some _ _ _ hnd];generalize (execOp a.eval o).run P w=r at *
 cases r with
 | ok x w' =>
  cases x<;>simp only[Oper.quietUponIn] at h3<;>simp only[Oper.uponIn]
  case value u =>
   obtain⟨e1,e2⟩:=h3;rw[e1,e2];exact h _ _ hw h2
  case skip =>
   obtain⟨e1,e2⟩:=h3;rw[e1,← e2];exact h _ _ hw h2
  case enter f args =>
   obtain⟨e1,hd,hc⟩:=h3;rw[e1]
   exact⟨hd,CallsIn.inRound l (hc.mono fun e w'' ⟨he,hw''⟩=>by subst he;exact h _ _ hw'' h2)⟩
 | halt x w'=>simp only[Oper.quietUponIn] at h3
theorem Qh3 {Q:Act→Prop}{Q':Exit→Act→World→Prop}(hnd:∀ (i:Nat) (o:Oper),ops[i]?=some o→∀ c,o.op≠.defer c)(hQ:∀ a w,C w→Q a→Q' .normal a w):∀ (fuel:Nat) (listed:Array Bool) (a:Act) (w:World),C w →
  wpAnyQIn F n P md ops C Q fuel listed a→wpAnyIn (F.inRound l) n P md ops Q' fuel listed a w
 | 0,_,_,_,hw,h=>⟨h.1,hQ _ _ hw h.2⟩
 | fuel+1,listed,_,_,hw,h=>⟨fun h0=>hQ _ _ hw (h.1 h0),fun i hi=>by
   have hh:=h.2 i hi;have ih:=fun a' w' hw'=>Qh3 hnd hQ fuel (listed.setIfInBounds i true) a' w' hw'
   unfold qOpIn at hh;unfold wpOpIn
   split
   ·rename_i ho;simp only[ho] at hh;exact ih _ _ hw hh
   ·rename_i o ho
    simp only[ho] at hh;obtain⟨ha,hh⟩:=hh
    split
    ·rename_i hw';simp only[hw',if_true] at hh;exact Qql (hnd _ _ ho) hw ih ha hh
    ·rename_i hw';simp only[hw'] at hh;exact⟨ha _ hw,ih _ _ hw hh⟩⟩
theorem Qh4 {id:Nat}{Q:Exit→Act→World→Prop}{a:Act}{w:World}{ol:List Oper}(hm:P.follows .mixedOrders=true)(hB:Region.lexB .any ol.toArray=true)(hnd:ol.all (fun o:Oper=>match o.op with | .defer _=>false | _=>true)=true)
  (h:wpQuietIn F n P ol.toArray (fun w'=>∃ p:Regrown,w'=grow (redrawn w p.d) p.os) (fun a'=>∀ w',(∃ p:Regrown,w'=grow (redrawn w p.d) p.os)→Q .normal a' w') ol a):(Code.region id ol.toArray true).wpIn (F.inRound l) n P Q a w:=by
 simp only[Region.lexB,Bool.and_eq_true] at hB;refine wpIn_region_any hm (Qh3 (Q:=fun a'=>∀ w',(∃ p:Regrown,w'=grow (redrawn w p.d) p.os)→Q .normal a' w') ?_ (fun _ w' hw' h=>h w' hw') _ _ _ _ ⟨⟨w.drawn+1,#[]⟩,by rw[grow_empty];rfl⟩ ?_)
 ·intro i o ho c hc;simp only[Wab] at ho
  have:=List.all_eq_true.1 hnd o (List.mem_of_getElem? ho)
  rw[hc] at this
  cases this
 ·have:=wpAnyQIn_lex (F:=F) (n:=n) (C:=fun w'=>∃ p:Regrown,w'=grow (redrawn w p.d) p.os) (md:=.any) hB.1 ol.toArray.toList 0 (Array.replicate ol.toArray.size false) a (by simp) (by simpa using hB.2) (by simpa using h)
  simpa using this
end
section
variable {P:Program}{n:Nat}{g:Operand}{ps:Array Tmp}{assign body:Code}{Q:Exit→Act→World→Prop}{a:Act}{w:World}
def Qqm (P:Program)(n gf:Nat)(lb:Array Value)(xs:Nat→Array Value)(N iB:Nat)(w:World):Prop :=
 ∀ (l:Nat) (J Jx:Nat→World→Prop) (W:World),Below w.heap.size w W→(∀ k A B,J k A→Below W.heap.size A B→J k B) →
  (∀ k A,k<N→J k A→YieldAt Fence.wide (n-1) P l (xs k) A fun e A'=>(e=.returned (.bool true)∧J (k+1) A'∧KpB iB A A')∨(e=.returned (.bool false)∧Jx (k+1) A')) →
  J 0 W→CallsIn Fence.wide n P gf (#[.func (.yield l) #[] #[]]++lb) W fun e W'=>(∃ v,e=.returned v)∧(J N W'∨∃ k,k≤N∧Jx k W')
theorem XY {B:Nat}(W:World)(l:Nat)(o:Obj)(h:B≤l):Below B W (W.putObj l o) :=
 ⟨rfl,rfl,rfl,by simp,fun _ hk=>World.putObj_heap_other (by omega)⟩
end
end
section
open Go.ChangeShapes Go.WideShapes Go.ChangeAt Go.RowKit
theorem Qfj:prog.cellsOf 113=3:=by kernel_rfl
theorem Qfk:prog.cellsOf 3=1:=by kernel_rfl
theorem Qmb:prog.cellsOf 9=1:=by kernel_rfl
def PT.dat {H:Type}(p:PT):DataW H:=.agg [.lit (.int .i64 p.keep),.lit (.int .i64 p.drop),.lit (.string p.put)]
structure PT.In (p:PT):Prop where
 k:-9223372036854775808≤p.keep∧p.keep≤9223372036854775807
 d:-9223372036854775808≤p.drop∧p.drop≤9223372036854775807
 s:p.put.length≤maxLen
theorem wf_i64 {n:Int}(h:(Lit.int .i64 n).wf=true):-9223372036854775808≤n∧n≤9223372036854775807:=by
 simp[Lit.wf,IntKind.min,IntKind.max,IntKind.signed,IntKind.bits] at h
 omega
section
variable {H:Type}{enc:TypeId × Value→H}{w:World}{base:Nat}{sp:Nat→Bool}{held:Bool}
theorem Qmc {n:Nat}{cs:List Value}{x:DataW H × List MemPlace}(h:DataW.trod enc prog w base sp held n 113 cs=some x) :
  ∃ p:PT,cs=p.cells∧x.1=p.dat∧p.In:=by
 obtain⟨xs,n',_,rfl,hcs,hxs,hf⟩:=DataW.trod_struct Qun h;rw[Qfj] at hcs;obtain⟨f0,f1,f2,hl,h0,h1,h2⟩:=Qup;simp only[Prod.mk.injEq] at h0 h1 h2;have hsz:(prog.fieldsOf 113).size=3:=by rw[← Array.length_toList,hl];rfl
 rw[hsz] at hxs;have g:∀ i f,[f0,f1,f2][i]?=some f→(prog.fieldsOf 113)[i]?=some f:=fun i f hi=>by rw[← Array.getElem?_toList,hl];exact hi
 match cs,hcs,xs,hxs with
 | [c0,c1,c2],_,[x0,x1,x2],_ =>
  have e0:=hf 0 f0 (g 0 f0 rfl);have e1:=hf 1 f1 (g 1 f1 rfl);have e2:=hf 2 f2 (g 2 f2 rfl);rw[h0.2.1,h0.2.2,Qfk] at e0;rw[h1.2.1,h1.2.2,Qfk] at e1;rw[h2.2.1,h2.2.2,Qmb] at e2;obtain⟨a,a1,rfl,a3⟩:=DataW.trod_int underlying3 e0;obtain⟨b,b1,rfl,b3⟩:=DataW.trod_int underlying3 e1;obtain⟨s,s1,rfl,s3⟩:=DataW.trod_string underlying9 e2;simp at a1 b1 s1;subst a1 b1 s1
  exact⟨⟨a,b,s.data.toList⟩,by simp[PT.cells],rfl,wf_i64 a3,wf_i64 b3,s3⟩
end
end
end Go.Proofs.YtdgdajnbkfmijaaGreatDoor
