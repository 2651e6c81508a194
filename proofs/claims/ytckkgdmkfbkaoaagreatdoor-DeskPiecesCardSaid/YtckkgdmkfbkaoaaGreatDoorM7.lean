/- Texts of the proof. -/
import Derived.Test.YtckkgdmkfbkaoaaGreatDoorM1
import Derived.Deep.RegionHeld3
import Derived.Deep.DrawnRows
namespace Go.Proofs.YtckkgdmkfbkaoaaGreatDoor
open Go.Proofs.Tryz
set_option maxRecDepth 100000
set_option maxHeartbeats 32000000
set_option linter.all false
open Go.RowKit
structure PT where
 keep:Int
 drop:Int
 put:U.Bs
abbrev PT.cells (p:PT):List Value:=[.int .i64 p.keep,.int .i64 p.drop,.string ⟨p.put.toArray⟩]
abbrev PT.v (p:PT):Value:=.agg #[.int .i64 p.keep,.int .i64 p.drop,.string ⟨p.put.toArray⟩]
def opv (l:List PT):List Value:=l.flatMap PT.cells
theorem Zw (l:List PT):(opv l).length=l.length*3:=by
 unfold opv
 induction l with
 | nil=>rfl
 | cons p l ih=>rw[List.flatMap_cons,Wad,ih];simp;omega
theorem Yo (a b:List PT):opv (a++b)=opv a++opv b:=by unfold opv;rw[List.flatMap_append]
theorem YV (p:PT):opv [p]=p.cells:=by simp[opv]
theorem Qcp {l:List PT}{k:Nat}(hk:k<l.length):(opv l)[3*k]?=some (.int .i64 l[k].keep)∧(opv l)[3*k+1]?=some (.int .i64 l[k].drop)∧(opv l)[3*k+2]?=some (.string ⟨l[k].put.toArray⟩):=by
 induction l generalizing k with
 | nil=>simp at hk
 | cons p l ih =>
  have e:opv (p :: l)=p.cells++opv l:=by simp[opv]
  rw[e]
  cases k with
  | zero=>simp[PT.cells]
  | succ k =>
   have hl:k<l.length:=by simpa using hk
   obtain⟨h1,h2,h3⟩:=ih hl;rw[show 3*(k+1)=3+3*k from by omega];simp only[PT.cells,List.getElem_cons_succ];refine⟨?_,?_,?_⟩
   ·rw[Way (by simp)];simpa using h1
   ·rw[Way (by simp;omega)];rw[← h2];congr 1;simp;omega
   ·rw[Way (by simp;omega)];rw[← h3];congr 1;simp;omega
theorem Qz (b o n:Nat):(⟨b,o,none⟩:Addr).add n=⟨b,o+n,none⟩:=by
 unfold Addr.add
 split
 ·subst_vars;rfl
 ·rfl
theorem Sl.part {w:World}{l:List PT}{v:Value}{n:Nat}(h:Sl w 3 v n (opv l)){k:Nat}(hk:k<n)(hl:k<l.length):∃ b o c,v=.slice (some ⟨b,o,none⟩) n c∧b<w.heap.size∧w.cell? ⟨b,o+k*3,none⟩=some (.int .i64 l[k].keep)∧w.cell? ⟨b,o+k*3+1,none⟩=some (.int .i64 l[k].drop)∧w.cell? ⟨b,o+k*3+2,none⟩=some (.string ⟨l[k].put.toArray⟩):=by
 obtain⟨A,c,rfl,h2,_,_,_,h5⟩:=h;obtain⟨ad,rfl,hb,hc⟩:=h5 (by omega);obtain⟨h1,h2,h3⟩:=Qcp hl;have c1:=hc _ _ h1;have c2:=hc _ _ h2;have c3:=hc _ _ h3;obtain⟨b,o,p⟩:=ad
 have hp:p=none:=by
  have hz:=hc 0 (.int .i64 (l[0]'(by omega)).keep) (by have:=(Qcp (l:=l) (k:=0) (by omega)).1;simpa using this)
  have:(⟨b,o,p⟩:Addr).add 0=⟨b,o,p⟩:=by unfold Addr.add;rfl
  rw[this] at hz
  cases p with
  | none=>rfl
  | some x=>unfold World.cell? at hz;split at hz<;>simp at hz
 subst hp;simp only[Qz] at c1 c2 c3;rw[Nat.mul_comm 3 k] at c1 c2 c3
 exact⟨b,o,c,rfl,hb,c1,by rw[← c2,Nat.add_assoc],by rw[← c3,Nat.add_assoc]⟩
def was:List PT→Int
 | []=>0
 | p :: l=>p.keep+p.drop+was l
def comes:List PT→Int
 | []=>0
 | p :: l=>p.keep+p.put.length+comes l
theorem Qgf (a b:Int):wrap64 (wrap64 a+wrap64 b)=wrap64 (a+b):=by unfold wrap64;omega
theorem Yd (a b:List PT):was (a++b)=was a+was b:=by
 induction a with
 | nil=>simp[was]
 | cons p a ih=>rw[Wap,was,was,ih];omega
theorem Qox (a b:List PT):comes (a++b)=comes a+comes b:=by
 induction a with
 | nil=>simp[comes]
 | cons p a ih=>rw[Wap,comes,comes,ih];omega
def Qoy (l:List PT)(w:World)(e:Ending)(w':World):Prop:=e=.returned (.tuple #[.int .i64 (wrap64 (was l)),.int .i64 (wrap64 (comes l))])∧Below w.heap.size w w'
attribute [local go_sem] Qz
theorem Xm {l:List PT}{v:Value}{n:Nat}{w:World}(hsl:Sl w 3 v n (opv l)) :
  Calls prog 208 #[v] w (Qoy l w):=by
 have hln:l.length=n:=by have:=hsl.len;rw[Zw] at this;omega
 have hle:=hsl.le;unfold maxLen at hle;have HSL:=Hm hsl;obtain⟨A,c,rfl,-⟩:=hsl;go_enter func208,ntmps208
 go_wp2_with fail
 go_loopw [2,3,8] (fun a b i wr=>∃ k:Nat,k≤n∧i=.int .i64 k∧a=.int .i64 (wrap64 (was (l.take k)))∧b=.int .i64 (wrap64 (comes (l.take k)))∧Below w.heap.size w wr) (fun _ _ i _=>n-(intOf i).toNat)
 case atStart=>exact⟨0,by omega,rfl,by simp[was,wrap64],by simp[comes,wrap64],(by repeat (first | exact Wac _ _ | exact Qe (by assumption) | apply Qe | apply Qo | apply Qb | assumption))⟩
 case round =>
  obtain⟨k,hk,rfl,rfl,rfl,hbel⟩:=hrel;have HB:=Hm hbel
  by_cases hkn:k<n
  ·obtain⟨b,o,c',hv,hlt,c0,c1,c2⟩:=(HSL.o.below hbel).part hkn (by omega)
   cases hv
   go_wp2_with fail;refine⟨⟨k+1,by omega,by go_num,?_,?_,(by repeat (first | exact Wac _ _ | exact Qe (by assumption) | apply Qe | apply Qo | apply Qb | assumption))⟩,?_⟩
   ·rw[Wag (by omega),Yd,Qgf];simp[was]
   ·rw[Wag (by omega),Qox,Qgf];simp[comes]
   ·simp only[intOf];omega
  ·obtain rfl:k=n:=by omega
   rw[show l.take k=l from by rw[← hln,Wbe]];go_wp2_with fail;refine Waz (v:=.tuple #[.int .i64 (wrap64 (was l)),.int .i64 (wrap64 (comes l))]) (by simp[results,results208,go_sem]) rfl ?_
   exact⟨rfl,hbel⟩
def PT.few (p:PT):Prop:=p.put.length≤300∧p.keep≤5000∧p.drop≤5000
instance (p:PT):Decidable p.few:=by unfold PT.few;infer_instance
end Go.Proofs.YtckkgdmkfbkaoaaGreatDoor
