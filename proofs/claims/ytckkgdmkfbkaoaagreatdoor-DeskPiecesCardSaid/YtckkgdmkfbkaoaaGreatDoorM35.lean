/- Texts of the proof. -/
import Derived.Test.YtckkgdmkfbkaoaaGreatDoorM33
import Derived.Lib.ConvBytes
namespace Go.Proofs.YtckkgdmkfbkaoaaGreatDoor
open Go.Proofs.Tryz
set_option maxRecDepth 100000
set_option maxHeartbeats 32000000
set_option linter.all false
open Go.RowKit
theorem Xo (w:World)(e:TypeId)(s:ByteArray):Below w.heap.size w (Lib.bytesWorld w e s) :=
 ⟨rfl,rfl,rfl,by rw[Lib.bytesWorld_size];omega,fun k hk=>Lib.bytesWorld_at_old w e s k hk⟩
theorem Qcx (w:World)(e:TypeId)(l:U.Bs)(h:l.length≤1000000):Sl (Lib.bytesWorld w e ⟨l.toArray⟩) 1 (.slice (some ⟨w.heap.size,0,none⟩) l.length (grownCap w l.length 0 e)) l.length (u8s l):=by
 refine⟨_,_,rfl,by unfold u8s;simp,grownCap_ge _ _ _ _,grownCap_le_maxLen _ _ _ _ (by unfold maxLen;omega),(fun h=>nomatch h),fun _=>⟨_,rfl,by rw[Lib.bytesWorld_size];exact Nat.lt_succ_self _,fun j u hu=>?_⟩⟩;have am:(⟨w.heap.size,0,none⟩:Addr).add j=⟨w.heap.size,j,none⟩:=by unfold Addr.add;split<;>simp_all
 have hj:j<l.length:=by
  rcases Nat.lt_or_ge j l.length with h | h
  ·exact h
  ·rw[List.getElem?_eq_none (by unfold u8s;simpa using h)] at hu;cases hu
 rw[am,Lib.bytesWorld_cell w e ⟨l.toArray⟩ j (show j<l.length from hj)];unfold u8s at hu;simp[hj] at hu
 rw[← hu];simp[hj]
theorem Jr (w:World)(l:U.Bs):(convert 9 54 (.string ⟨l.toArray⟩)).run prog w=.ok (.slice (some ⟨w.heap.size,0,none⟩) l.length (grownCap w l.length 0 5)) (Lib.bytesWorld w 5 ⟨l.toArray⟩):=by
 have:=Lib.run_convert_string_bytes (P:=prog) w 9 54 5 ⟨l.toArray⟩ underlying9 underlying54 underlying5
 exact this
theorem Qcy {rs:List Int}(_h:U.AllR rs)(w:World)(hl:bl rs≤1000000) :
  Calls prog 271 #[.string ⟨(U.encs rs).toArray⟩] w fun e w'=>Below w.heap.size w w'∧∃ v,e=.returned v∧Sl w' 1 v (U.encs rs).length (u8s (U.encs rs)):=by
 have HS:=Hm (Qcx w 5 (U.encs rs) hl);go_enter func271,ntmps271
 go_wp2_with fail;rw[Jr];simp only[Result.andThen];rw[Oper.upon_value];go_wp2_with fail;go_ret
 exact⟨Xo _ _ _,_,rfl,HS.o⟩
def Xp (l:U.Bs)(a:Nat):Bool:=decide (a<l.length) && U.cont (l.getD a 0)
theorem Qp6 (l:U.Bs)(a:Nat)(h:a≤l.length):Xp l a=!Yv l a:=by
 unfold Xp Yv
 by_cases e:a=l.length
 ·subst e;simp
 ·rw[decide_eq_true (by omega:a<l.length),decide_eq_false e];simp
section
attribute [local go_sem] Qz
theorem Qp7 {l:U.Bs}{v:Value}{n a:Nat}{w:World}(hsl:Sl w 1 v n (u8s l))(hn:n≤1000000)(ha:a≤n) :
  Calls prog 272 #[v,.int .i64 a] w fun e w'=>e=.returned (.bool (Xp l a))∧w'=w:=by
 have hl:l.length=n:=by have:=hsl.len;unfold u8s at this;rw[Wbi] at this;omega
 have HSL:=Hm hsl;obtain⟨A,c,rfl,-⟩:=hsl
 by_cases h1:a<n
 ·have hm:a<l.length:=by omega
  obtain⟨b1,o1,rfl⟩:=HSL.o.addr1 (by omega);obtain⟨A',c',hv,-,-,-,-,h5⟩:=HSL.o
  cases hv
  obtain⟨ad,hc0,hb,hc⟩:=h5 (by omega)
  cases hc0
  have hq:=hc a (.int .u8 (l[a].toNat:Int)) (by unfold u8s;simp[hm])
  have hE:Xp l a=U.cont l[a]:=by
   unfold Xp;rw[decide_eq_true hm,List.getD_eq_getElem?_getD,Waj hm];rfl
  rw[hE];have hxx:=l[a].toNat_lt;generalize l[a]=x at *;have am:(⟨b1,o1,none⟩:Addr).add a=⟨b1,o1+a,none⟩:=by cases a<;>rfl
  rw[am] at hq;clear hE hc h5 am
  by_cases hh:U.cont x=true
  ·have hb2:(bits .and .u8 (x.toNat:Int) 192 == 128)=true:=by
    have:=ZO hh
    rw[bne_eq_false_iff_eq] at this;rw[this];rfl
   rw[hh];clear hh;go_enter func272,ntmps272
   go_wp2_with fail;go_ret
   exact⟨rfl,rfl⟩
  ·have hb2:(bits .and .u8 (x.toNat:Int) 192 == 128)=false:=by
    have:=YQ hh
    rw[bne_iff_ne] at this;rw[Waf];exact this
   have hh:U.cont x=false:=by simpa using hh
   rw[hh];clear hh;go_enter func272,ntmps272
   go_wp2_with fail;go_ret
   exact⟨rfl,rfl⟩
 ·have hE:Xp l a=false:=by unfold Xp;rw[decide_eq_false (by omega:¬ a<l.length)];simp
  rw[hE];clear hE;go_enter func272,ntmps272
  go_wp2_with fail;go_ret
  exact⟨rfl,rfl⟩
end
end Go.Proofs.YtckkgdmkfbkaoaaGreatDoor
