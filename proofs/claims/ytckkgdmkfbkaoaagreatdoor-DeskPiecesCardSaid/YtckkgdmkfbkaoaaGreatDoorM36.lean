/- Texts of the proof. -/
import Derived.Test.YtckkgdmkfbkaoaaGreatDoorM4
import Derived.Test.YtckkgdmkfbkaoaaGreatDoorM35
namespace Go.Proofs.YtckkgdmkfbkaoaaGreatDoor
open Go.Proofs.Tryz
set_option maxRecDepth 100000
set_option maxHeartbeats 32000000
set_option linter.all false
open Go.RowKit
def rpb (a b c d x:UInt8):UInt8:=if x=a then b else if x=c then d else x
theorem Qe5 (a b c d x:UInt8):rpB a b c d x.toNat=(rpb a b c d x).toNat:=by
 unfold rpB rpb;simp only[UInt8.toNat_inj]
 split<;>(try split)<;>rfl
structure BufR (w:World)(G cap:Nat)(l:List UInt8):Prop where
 sl:Sl w 1 (.slice (some ⟨G,0,none⟩) l.length cap) l.length (u8s l)
 lt:G<w.heap.size
 fr:∀ j,j<l.length→w.frozen? ⟨G,j,none⟩=false
theorem BufR.cell {w:World}{G cap:Nat}{l:List UInt8}(h:BufR w G cap l){k:Nat}(hk:k<l.length):w.cell? ⟨G,k,none⟩=some (.int .u8 (l[k].toNat:Int)):=by
 obtain⟨A,c,e,h2,h3,h4,h4',h5⟩:=h.sl
 cases e
 obtain⟨ad,e,hb,hc⟩:=h5 (by omega)
 cases e
 have:=hc k (.int .u8 (l[k].toNat:Int)) (by unfold u8s;simp[hk])
 rwa [show (⟨G,0,none⟩:Addr).add k=⟨G,k,none⟩ from by unfold Addr.add;split<;>simp_all] at this
theorem BufR.set_ {w:World}{G cap k:Nat}{l:List UInt8}(h:BufR w G cap l)(hk:k<l.length)(v:UInt8):BufR (w.setCell ⟨G,k,none⟩ (.int .u8 (v.toNat:Int))) G cap (l.set k v):=by
 have hcs:=fun j (hj:j<l.length)=>h.cell hj
 obtain⟨⟨A,c,e,h2,h3,h4,h4',h5⟩,hl,hf⟩:=h
 cases e
 have hz:(w.setCell ⟨G,k,none⟩ (.int .u8 (v.toNat:Int))).heap.size=w.heap.size:=by simp
 refine⟨⟨some ⟨G,0,none⟩,cap,by rw[List.length_set],by unfold u8s;simp,by rw[List.length_set];exact h3,h4,(fun e=>by simp at e),fun _=>⟨⟨G,0,none⟩,rfl,by rw[hz];exact hl,fun j u hu=>?_⟩⟩,by rw[hz];exact hl,fun j hj=>by rw[World.frozen?_setCell];exact hf j (by rwa [List.length_set] at hj)⟩
 have am:(⟨G,0,none⟩:Addr).add j=⟨G,j,none⟩:=by unfold Addr.add;split<;>simp_all
 have hj:j<l.length:=by
  rcases Nat.lt_or_ge j l.length with h | h
  ·exact h
  ·rw[List.getElem?_eq_none (by unfold u8s;simpa using h)] at hu;cases hu
 rw[am];unfold u8s at hu;rw[Wav] at hu
 by_cases e:j=k
 ·subst e;rw[List.getElem?_set_self hj] at hu
  cases hu
  exact World.cell?_setCell_same _ _ _ (hcs j hj)
 ·rw[List.getElem?_set_ne (by omega),Waj hj] at hu
  cases hu
  exact (World.cell?_setCell_other _ ⟨G,k,none⟩ ⟨G,j,none⟩ _ (fun e2=>e (by injection e2 with _ e3 _;exact e3.symm))).trans (hcs j hj)
theorem BufR.new (w:World)(l:List UInt8)(h:l.length≤1000000):BufR (Lib.bytesWorld w 5 ⟨l.toArray⟩) w.heap.size (grownCap w l.length 0 5) l:=by
 refine⟨Qcx w _ l h,by rw[Lib.bytesWorld_size];omega,fun j hj=>?_⟩;have hc:(Lib.bytesCells w 5 ⟨l.toArray⟩).size ≥ l.length:=by unfold Lib.bytesCells;simp
 simp only[World.frozen?,Lib.bytesWorld_at_new];simp
 omega
theorem QM.cell {w:World}{g:Nat}{f:Nat→Nat}(h:QM w g 256 f)(j:Nat)(hj:j<256):w.cell? ⟨g,j,none⟩=some (.int .u8 (f j:Int)):=h.at_.2.2.2 j hj
def Zl (a b c d:UInt8)(s:List UInt8)(k:Nat):List UInt8:=(s.take k).map (rpb a b c d)++s.drop k
theorem JX (a b c d:UInt8)(s:List UInt8)(k:Nat):(Zl a b c d s k).length=s.length:=by unfold Zl;simp;omega
theorem Qe6 (l:List UInt8)(k:Nat)(h:k<(ByteArray.mk l.toArray).size):(ByteArray.mk l.toArray)[k]'h=l[k]'(by simp[ByteArray.size] at h;exact h):=rfl
theorem Qe7 {a b c d:UInt8}{s:List UInt8}{k:Nat}(hk:k<s.length):(Zl a b c d s k).set k (rpb a b c d s[k])=Zl a b c d s (k+1):=by
 unfold Zl;rw[List.set_append_right _ _ (by simp;omega),Wbi,Wbb,Nat.min_eq_left (by omega),Nat.sub_self,Wbl hk,List.set_cons_zero,Wag hk,Wbo];simp
theorem Qmh {a b c d:UInt8}{s:List UInt8}{k:Nat}(hk:k<s.length)(h:rpb a b c d s[k]=s[k]):Zl a b c d s k=Zl a b c d s (k+1):=by
 unfold Zl;rw[Wbl hk,Wag hk,Wbo];simp[h]
theorem Qmi (a b c d:UInt8)(s:List UInt8):Zl a b c d s 0=s:=by unfold Zl;simp
theorem Qe8 (a b c d:UInt8)(s:List UInt8):Zl a b c d s s.length=s.map (rpb a b c d):=by unfold Zl;simp
def Qmj (a b c d:UInt8)(s:List UInt8)(w:World)(e:Ending)(w':World):Prop:=e=.returned (.string ⟨(s.map (rpb a b c d)).toArray⟩)∧Below w.heap.size w w'
def BrI (a b c d:UInt8)(s:List UInt8)(K:Nat)(w:World)(k:Nat)(v:Value)(wr:World):Prop :=
 QM wr K 256 (rpB a b c d)∧Below w.heap.size w wr∧((v=.slice none 0 0∧Zl a b c d s k=s)∨∃ G cap,v=.slice (some ⟨G,0,none⟩) s.length cap∧w.heap.size≤G∧BufR wr G cap (Zl a b c d s k))
theorem Qmk (w:World)(A:Option Addr)(n c:Nat):(binOp .eql 54 (.slice A n c) (.slice none 0 0)).run prog w=.ok (.bool A.isNone) w:=Lib.run_eql_slice_nil w _ _ A n c 0 0 underlying54
attribute [local go_sem] Qe6
theorem Qml {w:World}{K:Nat}{a b c d:UInt8}{s:List UInt8}(h:QM w K 256 (rpB a b c d))(hK:K<w.heap.size)(hs:s.length≤1000000) :
  Calls prog 359 #[.pointer (some ⟨K,0,none⟩),.string ⟨s.toArray⟩] w (Qmj a b c d s w):=by
 have HT:=Hm h;clear h;have heq:=Qmk;go_enter func359,ntmps359
 go_wp2
 go_loopw [5,6,7] (fun v i _ wr=>∃ k:Nat,k≤s.length∧i=.int .i64 k∧BrI a b c d s K w k v wr) (fun _ i _ _=>s.length-(intOf i).toNat)
 case atStart=>exact⟨0,by omega,rfl,HT.o,Wac _ _,.inl ⟨rfl,Qmi _ _ _ _ _⟩⟩
 case round =>
  obtain⟨k,hk,rfl,hT,hB,hx⟩:=hrel;have HT2:=Hm hT;have HB2:=Hm hB;have hz:=hB.size
  by_cases hlt:k<s.length
  ·have tc:=hT.cell (s[k]).toNat (s[k]).toNat_lt;rw[Qe5] at tc;have hb1:(s[k]).toNat<256:=(s[k]).toNat_lt;have hb2:((s[k]).toNat:Int)<256:=by omega
   clear hT hB
   by_cases he:rpb a b c d s[k]=s[k]
   ·have HM:=Hm (Qmh hlt he);have HX:=Hm hx;have hne:(((rpb a b c d s[k]).toNat:Int) != ((s[k]).toNat:Int))=false:=by rw[he];simp
    clear hx he;go_wp2
    go_roundw
    case rel=>exact⟨k+1,by omega,by go_num,HT2.o,HB2.o,by rw[← HM.o];exact HX.o⟩
    case measure=>simp[intOf];omega
   ·have hne:(((rpb a b c d s[k]).toNat:Int) != ((s[k]).toNat:Int))=true:=by
     rw[bne_iff_ne];intro h;exact he (UInt8.toNat_inj.1 (by omega))
    clear he;rcases hx with ⟨rfl,hm⟩ | ⟨G,cap,rfl,hG,hbuf⟩
    ·have HM:=Hm hm;have hnw:=BufR.new wr s hs;have HNW:=Hm hnw;have nc:=hnw.cell hlt;have nf:=hnw.fr k hlt;have nl:=hnw.lt;have hT3:QM (Lib.bytesWorld wr 5 ⟨s.toArray⟩) K 256 (rpB a b c d):=HT2.o.below (Xo wr 5 ⟨s.toArray⟩) (by omega);have tc3:=hT3.cell (s[k]).toNat (s[k]).toNat_lt;rw[Qe5] at tc3;have HT3:=Hm hT3;clear hm hnw hT3;go_wp2
     rw[Jr];simp only[Result.andThen];rw[Oper.upon_value];go_wp2
     go_roundw
     case rel =>
      have hzb:=Lib.bytesWorld_size wr 5 ⟨s.toArray⟩;refine⟨k+1,by omega,by go_num,?_,?_,.inr ⟨_,_,rfl,hz,?_⟩⟩
      ·obtain⟨cs,t1,t2,t3⟩:=HT3.o
       exact⟨cs,t1.far (p:=⟨wr.heap.size,k,none⟩) (by show K≠wr.heap.size;omega) _,t2,t3⟩
      ·exact (HB2.o.trans ((Xo wr 5 ⟨s.toArray⟩).mono hz)).setCell (p:=⟨wr.heap.size,k,none⟩) hz _
      ·have hl:(Zl a b c d s k).length=s.length:=JX _ _ _ _ _ _
       have:=HNW.o.set_ hlt (rpb a b c d s[k])
       have e:s.set k (rpb a b c d s[k])=Zl a b c d s (k+1):=by
        rw[← Qe7 hlt,HM.o]
       rw[e] at this;exact this
     case measure=>simp[intOf];omega
    ·have HBF:=Hm hbuf;have hl:(Zl a b c d s k).length=s.length:=JX _ _ _ _ _ _;obtain⟨v0,nc⟩:∃ v0,wr.cell? ⟨G,k,none⟩=some v0:=⟨_,hbuf.cell (k:=k) (by omega)⟩;have nf:=hbuf.fr k (by omega);have nl:=hbuf.lt;clear hbuf hl;go_wp2
     go_roundw
     case rel =>
      refine⟨k+1,by omega,by go_num,?_,HB2.o.setCell (p:=⟨G,k,none⟩) hG _,.inr ⟨_,_,rfl,hG,?_⟩⟩
      ·obtain⟨cs,t1,t2,t3⟩:=HT2.o
       exact⟨cs,t1.far (p:=⟨G,k,none⟩) (by show K≠G;omega) _,t2,t3⟩
      ·rw[← Qe7 hlt];exact HBF.o.set_ (by rw[JX];exact hlt) _
     case measure=>simp[intOf];omega
  ·obtain rfl:k=s.length:=by omega
   clear hT hB;rcases hx with ⟨rfl,hm⟩ | ⟨G,cap,rfl,hG,hbuf⟩
   ·have HM:=Hm hm;clear hm;go_wp2
    go_ret
    exact⟨by rw[← Qe8,HM.o];rfl,HB2.o⟩
   ·have HSL:=hbuf.sl;rw[JX,Qe8] at HSL;have HSL:=Hm HSL;clear hbuf;go_wp2
    rw[XW underlying54 underlying5 underlying9 HSL.o];simp only[Result.andThen];rw[Oper.upon_value];go_wp2
    go_ret
    exact⟨rfl,HB2.o⟩
theorem Qmm (p : Addr) (w : World) : (nilAhead 581 341 (.pointer (some p)) "Replace").run Tryz.prog w = .ok (some false) w := by kernel_rfl
theorem Qmn (p : Addr) (w : World) : (Go.method 581 341 (.pointer (some p)) "Replace").run Tryz.prog w = .ok (359, .pointer (some p)) w := by kernel_rfl
def Qmo (a b c d:UInt8)(s:List UInt8)(N:Nat)(w:World)(e:Ending)(w':World):Prop:=e=.returned (.string ⟨(s.map (rpb a b c d)).toArray⟩)∧Below N w w'
theorem Qe9 {N B g cap:Nat}{w0 w:World}{a b c d:UInt8}{s:List UInt8}(h:RpN N w0 w B g cap 0 a b c d)(hN:N≤w.heap.size)(hs:s.length≤1000000) :
  Calls prog 87 #[.pointer (some ⟨B,0,none⟩),.string ⟨s.toArray⟩] w (Qmo a b c d s N w):=by
 obtain⟨z0,z1,z2,z3,z4⟩:=JA h.blk;have zf:=h.blk.frozen;have hz:(w.setCell ⟨B,1,none⟩ (.int .i32 1)).heap.size=w.heap.size:=by simp
 have hL:RpN N w (w.setCell ⟨B,1,none⟩ (.int .i32 1)) B g cap 1 a b c d :=
  have hx:=fun j=>World.cell?_setCell_other w ⟨B,1,none⟩ ⟨g,j,none⟩ (.int .i32 1) (fun e=>h.gB (by injection e with e1 _ _;exact e1.symm))
  ⟨h.blk.set_ 1 _,(hx 0).trans h.s0,(hx 1).trans h.s1,(hx 2).trans h.s2,(hx 3).trans h.s3,(Wac N w).setCell (p:=⟨B,1,none⟩) h.hB _,h.hB,h.gB⟩
 have HDO:=Hm (Qrz (b:=B) z0 z1 (zf 0) (zf 1) (Qvd hL (by rw[hz];exact hN)));have HB0:=Hm hL.bel;have HN:=Hm (Wao hN h.hB);have HZ:=Hm hz;have lt:=h.blk.lt;clear h z0 z1 z2 z3 z4 zf hL hz hN;go_enter func87,ntmps87
 go_wp2_with fail;refine HDO.o.mono ?_;rintro e w1 ⟨rfl,w2,⟨K,hk,ht,hne,hb⟩,-,hw1⟩
 have hk1:Blk w1 B 233 #[.int .u32 1,.int .i32 0,.int .u32 0,.iface 341 (.pointer (some ⟨K,0,none⟩)),.slice none 0 0]:=by
  rw[hw1];exact (Blk.set_ (w:=w2.drew) hk 0 (.int .u32 1)).set_ 1 (.int .i32 0)
 have ht1:QM w1 K 256 (rpB a b c d):=by
  obtain⟨cs,t1,t2,t3⟩:=ht;rw[hw1]
  exact⟨cs,(Blk.far (w:=w2.drew) t1 (p:=⟨B,0,none⟩) hne _).far (p:=⟨B,1,none⟩) hne _,t2,t3⟩
 have hb1:Below N w w1:=by
  rw[hw1];exact ((((HB0.o.trans hb).drew).setCell (p:=⟨B,0,none⟩) HN.o.2 _).setCell (p:=⟨B,1,none⟩) HN.o.2 _)
 obtain⟨y0,y1,y2,y3,y4⟩:=JA hk1;have yl:=hk1.lt;have hKl:K<w1.heap.size:=by obtain⟨cs,t1,-⟩:=ht1;exact t1.lt
 have HB1:=Hm hb1;have HBR:=Hm (Qml ht1 hKl hs);have hzz:=hb1.size;clear hk ht hne hb hw1 hk1 ht1 hb1 y0 y1 y2 y4;have hna:=Qmm;have hme:=Qmn;go_wp2_with (go_at_call 359;refine HBR.o.mono ?_;rintro e w3 ⟨rfl,hb3⟩;have HB3:=Hm hb3;clear hb3)
 go_ret
 exact⟨rfl,HB1.o.trans (HB3.o.mono (Wbf HN.o.1 hzz))⟩
end Go.Proofs.YtckkgdmkfbkaoaaGreatDoor
