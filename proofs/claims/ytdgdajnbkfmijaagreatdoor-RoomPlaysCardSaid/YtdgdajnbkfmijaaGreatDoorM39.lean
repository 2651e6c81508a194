/- Texts of the proof. -/
import Derived.Test.YtdgdajnbkfmijaaGreatDoorM16
namespace Go.Proofs.YtdgdajnbkfmijaaGreatDoor
open Go.Proofs.Tryz
set_option maxRecDepth 100000
set_option maxHeartbeats 32000000
open Go.ChangeShapes Go.WideShapes Go.ChangeAt Go.RowKit
section
variable {H:Type}{enc:TypeId × Value→H}{w:World}{base:Nat}
theorem Qqn {fuel:Nat}{cs:List Value}{x:DataW H × List MemPlace}(hf:DataW.trod enc prog w base (fun _=>true) true fuel 36 cs=some x) :
  ∃ (v:Value) (n:Nat) (l:List PT),cs=[v]∧Sl w 3 v n (opv l)∧l.length=n∧(∀ p∈l,p.In):=by
 rcases Go.Deep.open_slice underlying36 hf with ⟨rfl,hx⟩ | ⟨a,len,cap,m,n,D,Pl,rfl,_,hl,hm,hmm,hx,hi⟩
 ·exact⟨_,0,[],rfl,Sl.nil w 3,rfl,fun p hp=>by simp at hp⟩
 ·simp only[if_true] at hmm;subst hmm;rw[Qfj] at hi
  have hpt:∀ i,∃ p:PT,i<len→(∀ j u,p.cells[j]?=some u→w.cell? (a.add (i*3+j))=some u)∧D i=p.dat∧p.In:=by
   intro i
   by_cases h:i<len
   ·obtain⟨cs',hc,ht⟩:=hi i (by omega);obtain⟨p,rfl,hx,hin⟩:=Qmc ht;obtain⟨_,_,hat⟩:=World.cells?_some hc;refine⟨p,fun _=>⟨fun j u hu=>?_,hx,hin⟩⟩
    have hj:j<3:=by
     rcases Nat.lt_or_ge j 3 with h | h
     ·exact h
     ·rw[List.getElem?_eq_none (by simpa using h)] at hu;cases hu
    rw[← Qc8,hat j hj,hu]
   ·exact⟨⟨0,0,[]⟩,fun h'=>absurd h' h⟩
  obtain⟨f,hf'⟩:=Classical.axiomOfChoice hpt;refine⟨_,len,(List.range len).map f,rfl,⟨some a,_,rfl,by rw[QH];simp,hl,hm,(fun h=>nomatch h),fun hn=>⟨a,rfl,?_,?_⟩⟩,by simp,?_⟩
  ·have h1:=(hf' 0 hn).1 0 _ rfl
   have:=World.block_lt_of_cell? w _ h1
   rw[Xn] at this;exact this
  ·intro j u hu
   have hj:j<len*3:=by
    rcases Nat.lt_or_ge j (len*3) with h | h
    ·exact h
    ·rw[List.getElem?_eq_none (by rw[QH];simpa using h)] at hu;cases hu
   have hk:j / 3<((List.range len).map f).length:=by simp;omega
   obtain⟨o0,o1,o2⟩:=JW hk;have hg:((List.range len).map f)[j / 3]=f (j / 3):=by simp
   rw[hg] at o0 o1 o2;obtain⟨hc,_,_⟩:=hf' (j / 3) (by omega);have hr:j % 3=0∨j % 3=1∨j % 3=2:=by omega
   rcases hr with hr | hr | hr
   ·rw[show j=3*(j / 3) from by omega,o0] at hu
    have:=hc 0 u (by simpa using hu)
    rwa [show j / 3*3+0=j from by omega] at this
   ·rw[show j=3*(j / 3)+1 from by omega,o1] at hu
    have:=hc 1 u (by simpa using hu)
    rwa [show j / 3*3+1=j from by omega] at this
   ·rw[show j=3*(j / 3)+2 from by omega,o2] at hu
    have:=hc 2 u (by simpa using hu)
    rwa [show j / 3*3+2=j from by omega] at this
  ·intro p hp;obtain⟨i,hi',rfl⟩:=List.mem_map.1 hp;exact (hf' i (List.mem_range.1 hi')).2.2
end
theorem Qqo {v:Value}{l:List PT}{n:Nat}{w:World}(hsl:Sl w 3 v n (opv l))(hn:100<n):Calls prog 10 #[v] w fun e w'=>e=.returned (.bool false)∧w'=w:=by
 obtain⟨A,c,rfl,-⟩:=hsl;have hi:(100:Int)<(n:Int):=by omega
 go_enter func10,ntmps10
 go_wp2_with fail;go_ret
 exact⟨rfl,rfl⟩
end Go.Proofs.YtdgdajnbkfmijaaGreatDoor
