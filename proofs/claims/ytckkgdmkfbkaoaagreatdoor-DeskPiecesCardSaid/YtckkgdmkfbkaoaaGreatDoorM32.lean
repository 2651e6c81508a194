/- Texts of the proof. -/
import Derived.Test.YtckkgdmkfbkaoaaGreatDoorM31
import Derived.Test.YtckkgdmkfbkaoaaGreatDoorM5
namespace Go.Proofs.YtckkgdmkfbkaoaaGreatDoor
open Go.Proofs.Tryz
set_option maxRecDepth 100000
set_option maxHeartbeats 32000000
set_option linter.all false
section
open Go.RowKit
theorem Qjz (s:U.Bs)(a x:Nat):(ByteArray.mk s.toArray).extract a (a+x)=⟨((s.drop a).take x).toArray⟩:=by
 apply ByteArray.ext
 simp[ByteArray.extract,ByteArray.copySlice]
section
attribute [local go_sem] Qz YY
theorem Qj0 {w w':World}{g b:Nat}{cs:Array Value}(h:Blk w g 117 cs)(hk:Lib.OthersKept 5 (some b) w w')(hg:g≠b):Blk w' g 117 cs :=
 hk g _ h (fun e=>hg (Wbg e)) (fun c fz e=>by cases e)
theorem Qed {l:List PT}{v:Value}{n:Nat}{s:U.Bs}{w:World}(hgl:Hdl w)(hsl:Sl w 3 v n (opv l))(hp:∀ p∈l,p.put.length≤35184372087808)(hpl:Qd l≤1099511627776)(hs:s.length≤1000000) :
  Calls prog 294 #[v,.string ⟨s.toArray⟩] w fun e w'=>e=.returned (.tuple #[.string ⟨(apr l s).toArray⟩,Q4 (apc l s)])∧Below w.heap.size w w':=by
 have hln:l.length=n:=by have:=hsl.len;rw[Zw] at this;omega
 have hle:=hsl.le;unfold maxLen at hle;have HSL:=Hm hsl;have HP:=Hm hp;have HGL:=Hm hgl;obtain⟨A,c,rfl,-⟩:=hsl;clear hp hgl;go_enter func294,ntmps294
 go_wp2_with fail;refine (Zv HGL.o HSL.o HP.o (by omega)).mono ?_;rintro e w1 ⟨⟨ev,rfl,-,rfl⟩,hb1⟩;have HB1:=Hm hb1;clear hb1
 by_cases h0:chk l s.length=0
 ·obtain⟨hg,hwn⟩:=Qit h0;have HARG:Hd (∀ p∈l,p.arg):=⟨fun p hp=>(hg p hp).1⟩;have HWN:=Hm hwn;have HC:Hd (apc l s=if aok s 0 l=true then 0 else 10):=⟨by unfold apc;rw[if_pos h0]⟩;rw[h0,YC];clear h0 hg hwn;have HBN:=Hm (bnew w1);go_wp2_with fail
  go_loopw [8,20] (fun at_ i wr=>∃ k a:Nat,k≤n∧i=.int .i64 k∧at_=.int .i64 a∧Q6 (l.take k)=a∧aok s 0 (l.take k)=true∧Lib.IsBuilderF 56 5 w1.heap.size w1.heap.size (Lib.byteCells (Zc s 0 (l.take k))) wr∧Below w1.heap.size w1 wr) (fun _ i _=>n-(intOf i).toNat)
  case atStart=>exact⟨0,0,by omega,rfl,rfl,rfl,rfl,HBN.o,Qb (Wac _ _) _⟩
  case round =>
   obtain⟨k,a,hk,rfl,rfl,hwa,hok,hbd,hbel⟩:=hrel;have HB:=Hm hbel;have HBD:=Hm hbd;have hsz:=hbel.size
   by_cases hkn:k<n
   ·obtain⟨b,o,c',hv,hlt,c0,c1,c2⟩:=(HSL.o.below (Qa HB1.o hbel)).part hkn (by omega)
    cases hv
    have hw1:Q6 (l.take (k+1))≤s.length:=by
     have h1:=HWN.o
     have h2:Q6 l=Q6 (l.take (k+1))+Q6 (l.drop (k+1)):=by
      rw[← Qdq,Wbh]
     omega
    rw[Wag (by omega),Qdq] at hw1;have hs1:Q6 [l[k]]=l[k].ext:=by simp[Q6]
    rw[hs1,hwa] at hw1;have hmem:=Wau (h:=(by omega:k<l.length));have harg:=HARG.o _ hmem
    have hpl1:l[k].put.length≤Qd l:=by
     have h1:=Qaf l (k+1);rw[Wag (by omega),YA] at h1;simp only[Qd] at h1;omega
    have HNOT:=Hm (Qt4 (s:=s) (l:=l) (k:=k) (by omega))
    have HSN1:Hd (Zc s 0 (l.take (k+1))=Zc s 0 (l.take k)++((s.drop a).take l[k].keep.toNat++l[k].put)):=⟨by
     rw[Wag (by omega),Qt2,Nat.zero_add,hwa]⟩
    have HSN2:Hd (aok s 0 (l.take (k+1))=(aok s 0 (l.take k) && (edg s a && edg s (a+l[k].ext)))):=⟨by
     rw[Wag (by omega),Qir,Nat.zero_add,hwa]⟩
    have HSN3:Hd (Q6 (l.take (k+1))=a+l[k].ext):=⟨by
     rw[Wag (by omega),Qdq,hs1,hwa]⟩
    rw[hwa] at HNOT;have hol:=Qt5 s 0 (l.take k);rw[hwa] at hol;have hpt:=Qaf l k;generalize l[k]=p at *;obtain⟨x,y,z⟩:=p;obtain⟨_,hx,hy⟩:=harg;obtain⟨x,rfl⟩:=Was hx;obtain⟨y,rfl⟩:=Was hy;have hext:(⟨(x:Int),(y:Int),z⟩:PT).ext=x+y:=by unfold PT.ext;simp
    rw[hext] at hw1 HNOT HSN2 HSN3;rw[Int.toNat_natCast] at HSN1;dsimp only at c0 c1 c2 hpl1 HSN1;have HOK:=Hm hok;have HWA:=Hm hwa;clear hx hy hmem hs1 hext hok hwa
    have hbs:w1.heap.size<wr.heap.size:=by
     rcases hbd with h | h
     ·exact h.lt
     ·exact h.lt
    clear hbel hbd;generalize Zc s 0 (l.take k)=out at *;have e0:=Qjz s a x
    cases he1:edg s a
    ·have HF:Hd (apc l s=10):=⟨by rw[HC.o,HNOT.o (by rw[he1];rfl)];rfl⟩;have HR:Hd (apr l s=[]):=⟨by unfold apr;rw[if_neg (by rw[HF.o];decide)]⟩;have HE:=Hm he1;clear he1;go_wp2_with fail;refine (Jq s a _ (by omega)).mono ?_;rintro e w2 ⟨rfl,rfl⟩;rw[HE.o];go_wp2_with fail;go_ret2
     exact⟨by rw[HR.o,HF.o]<;>rfl,Qb (Qa HB1.o HB.o) _⟩
    ·cases he2:edg s (a+(x+y))
     ·have HF:Hd (apc l s=10):=⟨by rw[HC.o,HNOT.o (by rw[he1,he2];rfl)];rfl⟩;have HR:Hd (apr l s=[]):=⟨by unfold apr;rw[if_neg (by rw[HF.o];decide)]⟩;have HE:=Hm he1;have HE2:=Hm he2;clear he1 he2;go_wp2_with fail;refine (Jq s a _ (by omega)).mono ?_;rintro e w2 ⟨rfl,rfl⟩;rw[HE.o];go_wp2_with fail;rw[show ((a:Int)+x+y)=((a+(x+y):Nat):Int) from by omega];refine (Jq s (a+(x+y)) _ (by omega)).mono ?_;rintro e w2 ⟨rfl,rfl⟩;rw[HE2.o];go_wp2_with fail;go_ret2
      exact⟨by rw[HR.o,HF.o]<;>rfl,Qb (Qa HB1.o HB.o) _⟩
     ·have HOK2:Hd (aok s 0 (l.take (k+1))=true):=⟨by rw[HSN2.o,HOK.o,he1,he2];rfl⟩;have HE:=Hm he1;have HE2:=Hm he2;clear he1 he2;go_wp2_with fail;refine (Jq s a _ (by omega)).mono ?_;rintro e w2 ⟨rfl,rfl⟩;rw[HE.o];go_wp2_with fail;rw[show ((a:Int)+x+y)=((a+(x+y):Nat):Int) from by omega];refine (Jq s (a+(x+y)) _ (by omega)).mono ?_;rintro e w2 ⟨rfl,rfl⟩;rw[HE2.o];go_wp2_with fail;have HPB:Hd (Blk ((wr.alloc (.cells #[.int .i64 x,.int .i64 y,.string ⟨z.toArray⟩] 117)).drew) wr.heap.size 117 #[.int .i64 x,.int .i64 y,.string ⟨z.toArray⟩]):=⟨Blk.new wr _ _⟩;have HBDd:Hd (Lib.IsBuilderF 56 5 w1.heap.size w1.heap.size (Lib.byteCells out) ((wr.alloc (.cells #[.int .i64 x,.int .i64 y,.string ⟨z.toArray⟩] 117)).drew)):=⟨HBD.o.alloc _⟩
      have HSZ:Hd (w1.heap.size≤((wr.alloc (.cells #[.int .i64 x,.int .i64 y,.string ⟨z.toArray⟩] 117)).drew).heap.size):=⟨by
       show w1.heap.size≤(wr.alloc _).heap.size
       rw[Waq];omega⟩
      have HLN:Hd ((Lib.byteCells out).length+(ByteArray.mk ((s.drop a).take x++z).toArray).size≤140737488355328):=⟨by
       rw[Lib.byteCells_length];simp only[ByteArray.size,List.size_toArray,Wad,Wbb,War];omega⟩
      have i1:(a:Int)+x≤s.length:=by omega
      have i2:(a:Int)≤(a:Int)+x:=by omega
      have i3:(0:Int)≤a:=by omega
      have i4:(0:Int)≤(a:Int)+x:=by omega
      have i5:(a:Int)≤s.length:=by omega
      have i6:IntKind.i64.wrap ((a:Int)+x)=(a:Int)+x:=by rw[Waw];omega
      go_region_with (go_at_call 19;refine (Qg7 w1.heap.size w1.heap.size (Lib.byteCells out) ⟨((s.drop a).take x++z).toArray⟩ _ HBDd.o HLN.o HSZ.o).mono ?_;rintro e w3 ⟨rfl,hb3,hbel3,hok3⟩;have HPC:=Hm (Qj0 HPB.o hok3 (by omega));have q0:=HPC.o.cell 0;have q1:=HPC.o.cell 1;simp only[Wab,Waa,Wae] at q0 q1;have HBD3:=Hm hb3;have HBE3:=Hm hbel3;clear hb3 hbel3 hok3)
      all_goals
       go_wp2_with fail
       exact⟨⟨k+1,a+(x+y),by omega,by go_num,by go_num,HSN3.o,HOK2.o,by rw[HSN1.o,Lib.byteCells_append,← Qg8 ((s.drop a).take x++z)];exact .inr HBD3.o,(Qe (Qb HB.o _)).trans HBE3.o⟩,by simp only[intOf];omega⟩
   ·obtain rfl:k=n:=by omega
    rw[show l.take k=l from by rw[← hln,Wbe]] at hok HBD;have HF:Hd (apc l s=0):=⟨by rw[HC.o,hok];rfl⟩;have HR:Hd (apr l s=Zc s 0 l):=⟨by unfold apr;rw[if_pos HF.o]⟩;clear hok hwa hbel hbd;generalize Zc s 0 l=out at *;go_wp2_with fail;refine (Qc4 w1.heap.size w1.heap.size out _ HBD.o hsz).mono ?_;rintro e w3 ⟨rfl,-,hbel3,-⟩;have HB3:=Hm ((Qa HB1.o HB.o).trans (hbel3.mono HB1.o.size));clear hbel3;go_wp2_with fail;go_ret2
    exact⟨by rw[HR.o,HF.o,YC]<;>rfl,HB3.o⟩
 ·have HF:Hd (apc l s=chk l s.length):=⟨by unfold apc;rw[if_neg h0]⟩;have HR:Hd (apr l s=[]):=⟨by unfold apr;rw[HF.o,if_neg h0]⟩;rw[Yq h0];have H0:=Hm h0;clear h0;generalize chk l s.length=zz at *;go_wp2_with fail;go_ret2
  exact⟨by rw[HR.o,HF.o,Yq H0.o]<;>rfl,HB1.o⟩
end
end
section
open Go.RowKit
section
attribute [local go_sem] Qz YY
end
end
end Go.Proofs.YtckkgdmkfbkaoaaGreatDoor
