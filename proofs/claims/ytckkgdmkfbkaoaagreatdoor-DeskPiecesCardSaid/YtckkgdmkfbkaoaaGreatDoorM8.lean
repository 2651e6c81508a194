/- Texts of the proof. -/
import Derived.Test.YtckkgdmkfbkaoaaGreatDoorM2
import Derived.IntWalk
namespace Go.Proofs.YtckkgdmkfbkaoaaGreatDoor
open Go.Proofs.Tryz
set_option maxRecDepth 100000
set_option maxHeartbeats 32000000
set_option linter.all false
open Go.RowKit
structure Cn where
 b:Int
 h:Int
 r:Int
 l:Int
def Cn.add (x y:Cn):Cn:=⟨x.b+y.b,x.h+y.h,x.r+y.r,x.l+y.l⟩
def Cn.zero:Cn:=⟨0,0,0,0⟩
abbrev Cn.v (x:Cn):Value:=.agg #[.int .i64 x.b,.int .i64 x.h,.int .i64 x.r,.int .i64 x.l]
theorem Cn.v_eq (x:Cn):x.v=.agg #[.int .i64 x.b,.int .i64 x.h,.int .i64 x.r,.int .i64 x.l]:=rfl
structure Cn.In (x:Cn)(n:Int):Prop where
 b0:0≤x.b
 b1:x.b≤n
 h0:0≤x.h
 h1:x.h≤n
 r0:0≤x.r
 r1:x.r≤n
 l0:0≤x.l
 l1:x.l≤n
theorem Qmz (a0 a1 a2 a3 b0 b1 b2 b3:Int)(w:World) :
  Calls prog 182 #[.agg #[.int .i64 a0,.int .i64 a1,.int .i64 a2,.int .i64 a3],.agg #[.int .i64 b0,.int .i64 b1,.int .i64 b2,.int .i64 b3]] w
   fun e w'=>e=.returned (.agg #[.int .i64 (wrap64 (a0+b0)),.int .i64 (wrap64 (a1+b1)),.int .i64 (wrap64 (a2+b2)),.int .i64 (wrap64 (a3+b3))])∧Below w.heap.size w w':=by
 go_enter func182,ntmps182
 go_wp2
 refine Waz (v:=.agg #[.int .i64 (wrap64 (a0+b0)),.int .i64 (wrap64 (a1+b1)),.int .i64 (wrap64 (a2+b2)),.int .i64 (wrap64 (a3+b3))]) (by simp[results,results182,go_sem]) rfl ?_
 exact⟨rfl,(((Wac _ _).alloc (Wak _) _).alloc (by simp) _).alloc (by simp;omega) _⟩
theorem Zm (x y:Cn)(w:World)(hx:x.In 2305843009213693952)(hy:y.In 2305843009213693952) :
  Calls prog 182 #[x.v,y.v] w fun e w'=>e=.returned (x.add y).v∧Below w.heap.size w w':=by
 refine (Qmz x.b x.h x.r x.l y.b y.h y.r y.l w).mono ?_;rintro e w' ⟨rfl,h⟩;refine⟨?_,h⟩;obtain⟨h1,h2,h3,h4,h5,h6,h7,h8⟩:=hx;obtain⟨g1,g2,g3,g4,g5,g6,g7,g8⟩:=hy;unfold Cn.v Cn.add;rw[IntWalk.wrap64_in _ ⟨by omega,by omega⟩,IntWalk.wrap64_in _ ⟨by omega,by omega⟩,IntWalk.wrap64_in _ ⟨by omega,by omega⟩,IntWalk.wrap64_in _ ⟨by omega,by omega⟩]
def Cn.of (x:Cn)(u:Int):Int:=if u=1 then x.b else if u=2 then x.h else if u=3 then x.r else 0
theorem QC (x:Cn)(u:Int)(w:World) :
  Calls prog 213 #[x.v,.int .i64 u] w fun e w'=>e=.returned (.int .i64 (x.of u))∧Below w.heap.size w w':=by
 rw[Cn.v_eq];go_enter func213,ntmps213
 go_wp2
 all_goals go_ret
 all_goals refine⟨?_,(Wac _ _).alloc (Wak _) _⟩
 all_goals unfold Cn.of
 ·have h:u=1:=by simpa using ‹(u == 1)=true›
  rw[if_pos h];rfl
 ·have h:u=2:=by simpa using ‹(u == 2)=true›
  rw[if_neg (by omega),if_pos h];rfl
 ·have h:u=3:=by simpa using ‹(u == 3)=true›
  rw[if_neg (by omega),if_neg (by omega),if_pos h];rfl
 ·have h1:¬ u=1:=by simpa using ‹(u == 1)=false›
  have h2:¬ u=2:=by simpa using ‹(u == 2)=false›
  have h3:¬ u=3:=by simpa using ‹(u == 3)=false›
  rw[if_neg h1,if_neg h2,if_neg h3];rfl
def Q7 (r:Int)(n:Int):Cn:=⟨n,if 65536≤r then 2 else 1,1,if r=10 then 1 else 0⟩
theorem Qfo (r n:Int)(w:World) :
  Calls prog 183 #[.int .i32 r,.int .i64 n] w fun e w'=>e=.returned (Q7 r n).v∧Below w.heap.size w w':=by
 by_cases h1:65536≤r
 ·have h2:(r == 10)=false:=by rw[Waf];omega
  have e:(Q7 r n).v=.agg #[.int .i64 n,.int .i64 2,.int .i64 1,.int .i64 0]:=by
   unfold Q7 Cn.v;dsimp only;rw[if_pos h1,if_neg (by omega)]
  rw[e];clear e;go_enter func183,ntmps183
  go_wp2
  refine Waz (v:=.agg #[.int .i64 n,.int .i64 2,.int .i64 1,.int .i64 0]) (by simp[results,results183,go_sem]) rfl ?_
  exact⟨rfl,((Wac _ _).alloc (Wak _) _).alloc (by simp) _⟩
 ·by_cases h2:r=10
  ·subst h2
   have e:(Q7 10 n).v=.agg #[.int .i64 n,.int .i64 1,.int .i64 1,.int .i64 1]:=by
    unfold Q7 Cn.v;dsimp only;rw[if_neg (by omega),if_pos (by omega)]
   rw[e];clear e;go_enter func183,ntmps183
   go_wp2
   refine Waz (v:=.agg #[.int .i64 n,.int .i64 1,.int .i64 1,.int .i64 1]) (by simp[results,results183,go_sem]) rfl ?_
   exact⟨rfl,((Wac _ _).alloc (Wak _) _).alloc (by simp) _⟩
  ·have h3:(r == 10)=false:=by rw[Waf];omega
   have e:(Q7 r n).v=.agg #[.int .i64 n,.int .i64 1,.int .i64 1,.int .i64 0]:=by
    unfold Q7 Cn.v;dsimp only;rw[if_neg h1,if_neg h2]
   rw[e];clear e;go_enter func183,ntmps183
   go_wp2
   refine Waz (v:=.agg #[.int .i64 n,.int .i64 1,.int .i64 1,.int .i64 0]) (by simp[results,results183,go_sem]) rfl ?_
   exact⟨rfl,((Wac _ _).alloc (Wak _) _).alloc (by simp) _⟩
end Go.Proofs.YtckkgdmkfbkaoaaGreatDoor
