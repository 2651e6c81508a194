/- Texts of the proof. -/
import Derived.Test.YtdgdajnbkfmijaaGreatDoorM5
namespace Go.Proofs.YtdgdajnbkfmijaaGreatDoor
open Go.Proofs.Tryz
set_option maxRecDepth 100000
set_option maxHeartbeats 32000000
open Go.RowKit
theorem Qnp (w:World):(zeroValue 3).run prog w=.ok (.int .i64 0) w:=by kernel_rfl
def YW (x:Cn):Array MapEntry:=#[{ key:=.int .i64 1,val:=.int .i64 x.b,born:=0 },{ key:=.int .i64 2,val:=.int .i64 x.h,born:=1 },{ key:=.int .i64 3,val:=.int .i64 x.r,born:=2 }]
theorem Qnq (x:Cn)(u:Int):(∃ i,Instr.findNow (.int .i64) (.int .i64 u) (YW x).toList 0=some (some (i,.int .i64 (x.of u)))) ∨
  (Instr.findNow (.int .i64) (.int .i64 u) (YW x).toList 0=some none∧x.of u=0):=by
 unfold YW Cn.of
 by_cases h1:u=1
 ·exact .inl ⟨0,by simp[Instr.findNow,Instr.sameNow,h1]⟩
 by_cases h2:u=2
 ·exact .inl ⟨1,by simp[Instr.findNow,Instr.sameNow,h2]⟩
 by_cases h3:u=3
 ·exact .inl ⟨2,by simp[Instr.findNow,Instr.sameNow,h3]⟩
 ·refine .inr ⟨?_,by rw[if_neg h1,if_neg h2,if_neg h3]⟩;simp[Instr.findNow,Instr.sameNow,Waf.2 h1,Waf.2 h2,Waf.2 h3]
theorem Qnr (x:Cn)(u:Int)(w:World):(Instr.lookup 264 (.map (some w.heap.size)) (.int .i64 u) false).run prog (w.alloc (.map (YW x) 3))=.ok (.int .i64 (x.of u)) (w.alloc (.map (YW x) 3)):=by
 rcases Qnq x u with ⟨i,h⟩ | ⟨h,e⟩
 ·exact Qod underlying264 underlying3 w (YW x) 3 u i _ h
 ·rw[e];exact Qoe underlying264 underlying3 w (YW x) 3 u _ Qnp h
theorem Yi (x:Cn)(u:Int)(w:World) :
  Calls prog 124 #[x.v,.int .i64 u] w fun e w'=>e=.returned (.int .i64 (x.of u))∧Below w.heap.size w w':=by
 rw[Cn.v_eq];have hmm:=@run_makeMap prog;have i1:=Qcm (P:=prog) (w:=w.alloc (.cells #[.int .i64 x.b,.int .i64 x.h,.int .i64 x.r,.int .i64 x.l] 63)) underlying264 underlying3 #[] 0 1 (.int .i64 x.b) rfl
 have i2:=Qcm (P:=prog) (w:=w.alloc (.cells #[.int .i64 x.b,.int .i64 x.h,.int .i64 x.r,.int .i64 x.l] 63)) underlying264 underlying3
  #[{ key:=.int .i64 1,val:=.int .i64 x.b,born:=0 }] 1 2 (.int .i64 x.h) rfl
 have i3:=Qcm (P:=prog) (w:=w.alloc (.cells #[.int .i64 x.b,.int .i64 x.h,.int .i64 x.r,.int .i64 x.l] 63)) underlying264 underlying3
  #[{ key:=.int .i64 1,val:=.int .i64 x.b,born:=0 },{ key:=.int .i64 2,val:=.int .i64 x.h,born:=1 }] 2 3 (.int .i64 x.r) rfl
 have l:=Qnr x u (w.alloc (.cells #[.int .i64 x.b,.int .i64 x.h,.int .i64 x.r,.int .i64 x.l] 63));unfold YW at l;generalize x.of u=q at l ⊢;simp only[List.push_toArray,Wbn,Wap,Waq] at i1 i2 i3 l;go_enter func124,ntmps124
 go_wp2
 go_ret
 exact⟨rfl,((Wac _ _).alloc (Wak _) _).alloc (by simp) _⟩
end Go.Proofs.YtdgdajnbkfmijaaGreatDoor
