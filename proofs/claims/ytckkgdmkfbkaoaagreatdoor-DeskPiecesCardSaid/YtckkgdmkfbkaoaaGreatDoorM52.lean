/- Texts of the proof. -/
import Derived.Test.YtckkgdmkfbkaoaaGreatDoorM51
import Derived.Recover
namespace Go.Proofs.YtckkgdmkfbkaoaaGreatDoor
open Go.Proofs.Tryz
set_option maxRecDepth 100000
set_option maxHeartbeats 32000000
set_option linter.all false
open Go.RowKit Go.Sort
def X4 (e:Int):Bs:=[101,114,114,111,114,32]++Lib.itoa e
def Qmq (p:Addr)(e:Int)(w:World)(en:Ending)(u':FrameMode)(w':World):Prop :=
 en=.returned (.tuple #[])∧u'=.panicking [{ v:=.iface 100 (.agg #[.int .i64 e]),recovered:=true }]∧∃ w1,Below w.heap.size w w1∧w'=w1.setCell p (.string ⟨(X4 e).toArray⟩)
theorem Qfb {p:Addr}{x:Value}{e:Int}{w:World}(he:0≤e∧e≤100)(hc:w.cell? p=some x)(hz:w.frozen? p=false)(hg:Glo w) :
  CallsD prog 53 #[.pointer (some p)] (.panicking (thr e)) w (Qmq p e w):=by
 refine callsD_of_wpS func53 rfl fun c₀ cs hu=>?_
 unfold thr at hu;simp only[ntmps53,List.size_toArray,Wan,List.length_nil,Nat.reduceAdd,Nat.reduceSub,Array.replicate_succ,Array.replicate_zero,List.push_toArray,List.append_toArray,Wbn,Wap]
 apply wpS_seq
 apply wpS_region
 simp[wpOpsS,go_sem,recoverD,hu,Exit.thenS]
 refine wpS_of_wp ?_;have HI:=fun W (hg:Glo W)=>Hm (Jl (n:=e) (by omega) (by omega) hg)
 have hta:∀ (v:Value) (w:World),(Instr.typeAssert (.iface 100 v) 20 100 true).run prog w=.ok (.tuple #[v,.bool true]) w:=fun _ _=>by kernel_rfl
 have jl:=Lib.itoa_length_le e (by omega) (by omega);have pb:=World.block_lt_of_cell? w p hc;have HB0:Hd (Below w.heap.size w (w.alloc (.cells #[.int .i64 e] 100))):=⟨Qb (Wac _ _) _⟩;have HG:=Hm hg;have HC:=Hm (Wao hc hz);clear hc hz hg;go_wp2_with (go_at_call 54;refine (HI _ (HG.o.below HB0.o)).out.mono ?_;rintro e1 w1 ⟨rfl,hb1⟩;have hx1:=Qa HB0.o hb1;have HB1:=Hm hx1;have hc1:=(hx1.cell pb).trans HC.o.1;have hz1:=(hx1.frozen pb).trans HC.o.2;have pb1:=Wal pb hx1.size;clear hb1 hx1)
 exact⟨rfl,_,rfl,_,results_none rfl _ _ _,rfl,rfl,w1,HB1.o,by unfold X4;rw[← YY]⟩
theorem Qfc {p:Addr}{w:World}:CallsD prog 53 #[.pointer (some p)] .returning w fun en u' w'=>en=.returned (.tuple #[])∧u'=.returning∧w'=w:=by
 refine callsD_of_wpS func53 rfl fun c₀ cs hu=>?_
 simp only[ntmps53,List.size_toArray,Wan,List.length_nil,Nat.reduceAdd,Nat.reduceSub,Array.replicate_succ,Array.replicate_zero,List.push_toArray,List.append_toArray,Wbn,Wap]
 apply wpS_seq
 apply wpS_region
 simp[wpOpsS,go_sem,recoverD,hu,Exit.thenS]
 refine wpS_of_wp ?_;go_wp2
 exact⟨rfl,_,by rw[← hu],_,results_none rfl _ _ _,rfl,rfl,rfl⟩
theorem Qmr (x:Nat)(W:World):Calls prog 56 #[encR x] W fun e w'=>e=.returned (.bool (x == 32))∧w'=W:=by
 unfold encR;go_enter func56,ntmps56
 go_wp2
 go_ret;have e:((x:Int) == 32)=(x == 32):=by rw[Bool.eq_iff_iff];simp;omega
 exact⟨by rw[← e];rfl,rfl⟩
end Go.Proofs.YtckkgdmkfbkaoaaGreatDoor
