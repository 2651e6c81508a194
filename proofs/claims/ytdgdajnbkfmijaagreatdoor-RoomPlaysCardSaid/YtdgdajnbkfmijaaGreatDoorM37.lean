/- Texts of the proof. -/
import Derived.Test.YtdgdajnbkfmijaaGreatDoorM35
import Derived.Laws.EntriesVeiled
import Derived.Test.YtdgdajnbkfmijaaGreatDoorM15
import Derived.Test.YtdgdajnbkfmijaaGreatDoorM30
namespace Go.Proofs.YtdgdajnbkfmijaaGreatDoor
open Go.Proofs.Tryz
set_option maxRecDepth 100000
set_option maxHeartbeats 32000000
open Go.RowKit
def Qh5 (R:List Int)(l:List PT)(u tu:Int)(w:World)(e:Ending)(w':World):Prop :=
 Below w.heap.size w w'∧∃ v o k,e=.returned (.tuple #[v,.int .i64 k])∧Sl w' 3 v o.length (opv o)∧TnR R l u tu o k
section
attribute [local go_sem] Qr Cn.v_eq
theorem Qqs {R:List Int}{l:List PT}{v:Value}{n:Nat}{u tu:Int}{w:World}(hsl:Sl w 3 v n (opv l))(hp:∀ p∈l,p.put.length≤35184372087808)(hR:U.AllR R)(hl:bl R≤8000)(hn:n≤100000) :
  Calls prog 78 #[.string ⟨(U.encs R).toArray⟩,.int .i64 u,.int .i64 tu,v] w (fun e w'=>Qh5 R l u tu w e w'∧FrE w.heap.size e):=by
 have hln:l.length=n:=by have:=hsl.len;rw[QH] at this;omega
 have HSL:=Hm hsl;have HP:=Hm hp;have HA:=Hm hR;have HLN:=Hm hln;have HBR:=Hm hl;obtain⟨A,cc,rfl,-⟩:=hsl;have hlen:(U.encs R).length=bl R:=rfl;have HC:=fun w1=>Hm (Qa3 (U.sp_encs hR) w1 (by rw[hlen];omega))
 clear hp hR hln hlen
 by_cases hu:1≤u∧u≤3
 ·by_cases ht:1≤tu∧tu≤3
  ·have HU:=Hm hu;have HT:=Hm ht;obtain⟨m,hm⟩:∃ m,m=(cnt R).of u:=⟨_,rfl⟩;have hm0:0≤m:=by rw[hm];exact Zo _ _
   have hm1:m≤40000:=by
    have h1:=of_le (rs:=R) (n:=bl R) (QI R) u;omega
   have HM:=Hm hm;clear hu ht hm;obtain⟨ck,hck⟩:∃ ck,ck=chk l m:=⟨_,rfl⟩;have HCK:=Hm hck;clear hck
   by_cases h0:ck=0
   ·subst h0;obtain⟨hgd,hwas⟩:=XA HCK.o.symm;have HGD:=Hm hgd;have HWAS:=Hm hwas;clear hgd hwas;go_enter func78,ntmps78
    go_wp2_with (first
     | (go_at_call_of 69 (Value.int .i64 u);refine (inT HU.o _).mono ?_;rintro e w3 ⟨rfl,rfl⟩)
     | (go_at_call_of 69 (Value.int .i64 tu);refine (inT HT.o _).mono ?_;rintro e w3 ⟨rfl,rfl⟩)
     | (go_at_call 49;refine (HC _).out.mono ?_;rintro e w1 ⟨hb1,he,-⟩;obtain rfl:=he rfl;have HB1:=Hm hb1;clear hb1 he;unfold QQ)
     | (go_at_call 124;refine (Yi (cnt R) u _).mono ?_;rintro e w2 ⟨rfl,hb2⟩;rw[← HM.o];have HB2:=Hm (Qb (Qa (Qa HB1.o _) _) hb2);clear hb2)
     | (go_at_call 96;refine (XJ (HSL.o.below HB2.o) HP.o (by omega)).mono ?_;rintro e w3 ⟨rfl,hb3⟩;rw[← HCK.o];have HB3:=Hm (Qb HB2.o hb3);clear hb3))
    go_loopw [13,14,15,43] (fun out av wv i wr=>∃ (k:Nat) (c:Cn) (a:Int) (ol:List PT),i=.int .i64 (k:Int)∧av=.int .i64 a∧wv=.int .i64 (c.of tu)∧wr.ownsRow w3.heap.size 113 3 out k (opv ol)∧Below w3.heap.size w3 wr∧TnI R u tu l m k c a ol) (fun _ _ _ i _=>n-(intOf i).toNat)
    case atStart=>exact⟨0,Cn.zero,0,[],rfl,rfl,by rw[Qb7],World.ownsRow_nil _ _ _ _,Wac _ _,TnI.start HWAS.o⟩
    case round =>
     obtain⟨k,c,a,ol,rfl,rfl,rfl,hown,hbel,hI⟩:=hrel;have HB:=Hm hbel;have HOW:=Hm hown;have HI:=Hm hI;obtain⟨Ao,co,rfl⟩:=Qg hown;have hsz:=hbel.size;have hkle:k≤n:=by have:=hI.k_le;have:=HLN.o;omega
     have hc0:=hI.c0;have hc1:=hI.c1
     by_cases hkn:k<n
     ·have hkl:k<l.length:=by have:=HLN.o;omega
      obtain⟨b0,o0,c0,hv,hlt,y0,y1,y2⟩:=(HSL.o.below (Qb HB3.o hbel)).part hkn hkl
      cases hv
      have hbd:=hI.bound HGD.o hkl;have ha0:=hI.a0;have harg:=(HGD.o _ (Wau hkl)).1;have HST:Hd (∀ c9 e,QG u (a+(l[k].keep+l[k].drop)) R c9 (erV e)→e≠0→(tnF R u tu Cn.zero 0 l).2=e):=⟨fun c9 e h1 h2=>HI.o.stop hkl h1 h2⟩;have HSP:Hd (∀ c9,QG u (a+(l[k].keep+l[k].drop)) R c9 (erV 0)→TnI R u tu l m (k+1) c9 (a+(l[k].keep+l[k].drop)) (ol++[tnP l[k] (c9.of tu-c.of tu)])):=⟨fun c9 h1=>HI.o.step HGD.o hkl (by have:=QI R;have:=HBR.o;omega) h1⟩;clear hown hbel hI HI;generalize l[k]=q at *;rcases harg.cases with ⟨b,hb,rfl⟩ | ⟨d,hd,rfl⟩ | ⟨d,hd,rfl⟩
      ·have hq':(b == [])=false:=by rw[Waf];exact hb
       dsimp only at y0 y1 y2 hbd;have hsz2:a+(0+0)=a:=by omega
       rw[hsz2] at HST HSP hbd;have HBX:Hd (Blk (wr.alloc (.cells #[.int .i64 0,.int .i64 0,.string ⟨b.toArray⟩] 113)) wr.heap.size 113 #[.int .i64 0,.int .i64 0,.string ⟨b.toArray⟩]):=⟨Blk.new _ _ _⟩;have HO3:=Hm ((Only.refl (fun j=>j=wr.heap.size) wr).alloc (.cells #[.int .i64 0,.int .i64 0,.string ⟨b.toArray⟩] 113));clear hsz2;go_wp2_with fail;refine (Qc5 HA.o (by have:=HBR.o;omega)).mono ?_;rintro e w4 ⟨hb4,c9,e9,rfl,hr9⟩;have hbx4:=HBX.o.below hb4 HBX.o.lt;have HBX4:=Hm hbx4;have HO4:=Hm ((HO3.o.then_below hb4).alloc (.cells #[.int .i64 c9.b,.int .i64 c9.h,.int .i64 c9.r,.int .i64 c9.l] 63));have HB4:=Hm (Qb (Qa HB.o _) hb4);have HC4:Hd (Qn (w4.alloc (.cells #[.int .i64 c9.b,.int .i64 c9.h,.int .i64 c9.r,.int .i64 c9.l] 63)) w4.heap.size c9):=⟨Wbc w4 _⟩;have hne:w4.heap.size≠wr.heap.size:=by have:=hbx4.lt;omega
       rw[Cn.v_eq];clear hb4
       by_cases he9:e9=0
       ·subst he9;have hI2:=HSP.o c9 hr9;have hx0:=hI2.c0;have hx1:=hI2.c1;have HI2:=Hm hI2;have HBX5:=Hm (Blk.alloc hbx4 (.cells #[.int .i64 c9.b,.int .i64 c9.h,.int .i64 c9.r,.int .i64 c9.l] 63));obtain⟨P0,P1,P2⟩:=Yj hbx4;have PL:=hbx4.lt;clear hI2 hr9 HST HSP hbx4 y0 y1 y2;go_wp2_with fail;clear P0 P1 P2 PL;refine (Yi c9 tu _).mono ?_;rintro e w5 ⟨rfl,hb5⟩;have hbx5:=HBX5.o.below hb5 HBX5.o.lt;have hc5:=HC4.o.below hb5 HC4.o.lt;have HBX6:=Hm hbx5;obtain⟨P0,P1,P2⟩:=Yj hbx5;have PL:=hbx5.lt;have PF:=hbx5.frozen;have HO5:=Hm (HO4.o.then_below hb5);have HB5:=Hm (Qb (Qa HB4.o _) hb5);clear hb5 hbx5 hc5;have HOW2:=Hm (Qt HOW.o HO5.o (fun j e1 e2=>by have:=(HOW.o.lt j e1).2;omega));have hk1:k+1≤maxLen:=by unfold maxLen;omega
        have hk2:(k+1)*32≤140737488355328:=by omega
        have hk3:w3.heap.size≤w5.heap.size:=HB5.o.size;go_wp2_with (at_builtin;refine Qx Q9 #[.int .i64 0,.int .i64 0,.string ⟨b.toArray⟩] HOW2.o rfl rfl rfl rfl (by simp) rfl (Q5 rfl rfl rfl) hk1 hk2 hk3 ?_;intro v9 w9 hown9 hbel9 hgr9 hnew9;obtain⟨A9,k9,rfl⟩:=Qg hown9;have HO9:=Hm hown9;have HB9:=Hm hbel9;clear hown9 hbel9 hgr9 hnew9)
        exact⟨⟨k+1,c9,a,ol++[⟨0,0,b⟩],by go_num,rfl,rfl,by rw[QU,Zu];exact HO9.o,HB5.o.trans HB9.o,by have h:=HI2.o;rw[X7] at h;exact h⟩,by simp only[intOf];omega⟩
       ·have HE:=Hm (HST.o c9 e9 hr9 he9);clear hr9 HST HSP y0 y1 y2 hbx4;go_wp2_with fail;go_ret2
        exact⟨⟨Qb HB3.o (Qa HB4.o _),_,[],e9,rfl,Sl.nil _ _,fun h=>absurd ⟨HU.o,HT.o⟩ h,fun _ h=>absurd (by rw[← HM.o];exact HCK.o.symm) h,fun _ _=>⟨HE.o.symm,by rw[if_neg he9]⟩⟩,frE (Frs.nil _)⟩
      ·have hd':(0:Int)<(d:Int):=by omega
       dsimp only at y0 y1 y2 hbd;have hsz2:a+(0+(d:Int))=a+(d:Int):=by omega
       rw[hsz2] at HST HSP hbd;have HBX:Hd (Blk (wr.alloc (.cells #[.int .i64 0,.int .i64 (d:Int),.string ⟨#[]⟩] 113)) wr.heap.size 113 #[.int .i64 0,.int .i64 (d:Int),.string ⟨#[]⟩]):=⟨Blk.new _ _ _⟩;have HO3:=Hm ((Only.refl (fun j=>j=wr.heap.size) wr).alloc (.cells #[.int .i64 0,.int .i64 (d:Int),.string ⟨#[]⟩] 113));clear hsz2;go_wp2_with fail;refine (Qc5 HA.o (by have:=HBR.o;omega)).mono ?_;rintro e w4 ⟨hb4,c9,e9,rfl,hr9⟩;have hbx4:=HBX.o.below hb4 HBX.o.lt;have HBX4:=Hm hbx4;have HO4:=Hm ((HO3.o.then_below hb4).alloc (.cells #[.int .i64 c9.b,.int .i64 c9.h,.int .i64 c9.r,.int .i64 c9.l] 63));have HB4:=Hm (Qb (Qa HB.o _) hb4);have HC4:Hd (Qn (w4.alloc (.cells #[.int .i64 c9.b,.int .i64 c9.h,.int .i64 c9.r,.int .i64 c9.l] 63)) w4.heap.size c9):=⟨Wbc w4 _⟩;have hne:w4.heap.size≠wr.heap.size:=by have:=hbx4.lt;omega
       rw[Cn.v_eq];clear hb4
       by_cases he9:e9=0
       ·subst he9;have hI2:=HSP.o c9 hr9;have hx0:=hI2.c0;have hx1:=hI2.c1;have HI2:=Hm hI2;have HBX5:=Hm (Blk.alloc hbx4 (.cells #[.int .i64 c9.b,.int .i64 c9.h,.int .i64 c9.r,.int .i64 c9.l] 63));obtain⟨P0,P1,P2⟩:=Yj hbx4;have PL:=hbx4.lt;clear hI2 hr9 HST HSP hbx4 y0 y1 y2;go_wp2_with fail;clear P0 P1 P2 PL;refine (Yi c9 tu _).mono ?_;rintro e w5 ⟨rfl,hb5⟩;have hbx5:=HBX5.o.below hb5 HBX5.o.lt;have hc5:=HC4.o.below hb5 HC4.o.lt;have HBX6:=Hm hbx5;obtain⟨P0,P1,P2⟩:=Yj hbx5;have PL:=hbx5.lt;have PF:=hbx5.frozen;have HO5:=Hm (HO4.o.then_below hb5);have HB5:=Hm (Qb (Qa HB4.o _) hb5);obtain⟨Q0,Q1,Q2,Q3⟩:=hc5.cells;have QL:=hc5.lt;clear hb5 hbx5 hc5;go_wp2_with fail;clear P0 P1 P2 PL PF Q0 Q1 Q2 Q3 QL;refine (Yi c9 tu _).mono ?_;rintro e w6 ⟨rfl,hb6⟩;have hbx6:=(HBX6.o.set_ 1 (.int .i64 (c9.of tu-c.of tu))).below hb6 (HBX6.o.set_ 1 (.int .i64 (c9.of tu-c.of tu))).lt;simp only[List.setIfInBounds_toArray,List.set_cons_zero,List.set_cons_succ] at hbx6;obtain⟨P0,P1,P2⟩:=Yj hbx6;have PL:=hbx6.lt;have HO6:=Hm ((HO5.o.setCell (p:=⟨wr.heap.size,1,none⟩) (.inl rfl) (.int .i64 (c9.of tu-c.of tu))).then_below hb6);have HB6:=Hm (Qb (HB5.o.setCell (p:=⟨wr.heap.size,1,none⟩) hsz (.int .i64 (c9.of tu-c.of tu))) hb6);clear hb6 hbx6;have HOW2:=Hm (Qt HOW.o HO6.o (fun j e1 e2=>by have:=(HOW.o.lt j e1).2;omega));have hk1:k+1≤maxLen:=by unfold maxLen;omega
        have hk2:(k+1)*32≤140737488355328:=by omega
        have hk3:w3.heap.size≤w6.heap.size:=HB6.o.size;go_wp2_with (at_builtin;refine Qx Q9 #[.int .i64 0,.int .i64 (c9.of tu-c.of tu),.string ⟨#[]⟩] HOW2.o rfl rfl rfl rfl (by simp) rfl (Q5 rfl rfl rfl) hk1 hk2 hk3 ?_;intro v9 w9 hown9 hbel9 hgr9 hnew9;obtain⟨A9,k9,rfl⟩:=Qg hown9;have HO9:=Hm hown9;have HB9:=Hm hbel9;clear hown9 hbel9 hgr9 hnew9)
        exact⟨⟨k+1,c9,a+(d:Int),ol++[⟨0,c9.of tu-c.of tu,[]⟩],by go_num,rfl,rfl,by rw[QU,Zu];exact HO9.o,HB6.o.trans HB9.o,by have h:=HI2.o;rw[X8 hd] at h;exact h⟩,by simp only[intOf];omega⟩
       ·have HE:=Hm (HST.o c9 e9 hr9 he9);clear hr9 HST HSP y0 y1 y2 hbx4;go_wp2_with fail;go_ret2
        exact⟨⟨Qb HB3.o (Qa HB4.o _),_,[],e9,rfl,Sl.nil _ _,fun h=>absurd ⟨HU.o,HT.o⟩ h,fun _ h=>absurd (by rw[← HM.o];exact HCK.o.symm) h,fun _ _=>⟨HE.o.symm,by rw[if_neg he9]⟩⟩,frE (Frs.nil _)⟩
      ·have hd':(0:Int)<(d:Int):=by omega
       dsimp only at y0 y1 y2 hbd;have hsz2:a+((d:Int)+0)=a+(d:Int):=by omega
       rw[hsz2] at HST HSP hbd;have HBX:Hd (Blk (wr.alloc (.cells #[.int .i64 (d:Int),.int .i64 0,.string ⟨#[]⟩] 113)) wr.heap.size 113 #[.int .i64 (d:Int),.int .i64 0,.string ⟨#[]⟩]):=⟨Blk.new _ _ _⟩;have HO3:=Hm ((Only.refl (fun j=>j=wr.heap.size) wr).alloc (.cells #[.int .i64 (d:Int),.int .i64 0,.string ⟨#[]⟩] 113));clear hsz2;go_wp2_with fail;refine (Qc5 HA.o (by have:=HBR.o;omega)).mono ?_;rintro e w4 ⟨hb4,c9,e9,rfl,hr9⟩;have hbx4:=HBX.o.below hb4 HBX.o.lt;have HBX4:=Hm hbx4;have HO4:=Hm ((HO3.o.then_below hb4).alloc (.cells #[.int .i64 c9.b,.int .i64 c9.h,.int .i64 c9.r,.int .i64 c9.l] 63));have HB4:=Hm (Qb (Qa HB.o _) hb4);have HC4:Hd (Qn (w4.alloc (.cells #[.int .i64 c9.b,.int .i64 c9.h,.int .i64 c9.r,.int .i64 c9.l] 63)) w4.heap.size c9):=⟨Wbc w4 _⟩;have hne:w4.heap.size≠wr.heap.size:=by have:=hbx4.lt;omega
       rw[Cn.v_eq];clear hb4
       by_cases he9:e9=0
       ·subst he9;have hI2:=HSP.o c9 hr9;have hx0:=hI2.c0;have hx1:=hI2.c1;have HI2:=Hm hI2;have HBX5:=Hm (Blk.alloc hbx4 (.cells #[.int .i64 c9.b,.int .i64 c9.h,.int .i64 c9.r,.int .i64 c9.l] 63));obtain⟨P0,P1,P2⟩:=Yj hbx4;have PL:=hbx4.lt;clear hI2 hr9 HST HSP hbx4 y0 y1 y2;go_wp2_with fail;clear P0 P1 P2 PL;refine (Yi c9 tu _).mono ?_;rintro e w5 ⟨rfl,hb5⟩;have hbx5:=HBX5.o.below hb5 HBX5.o.lt;have hc5:=HC4.o.below hb5 HC4.o.lt;have HBX6:=Hm hbx5;obtain⟨P0,P1,P2⟩:=Yj hbx5;have PL:=hbx5.lt;have PF:=hbx5.frozen;have HO5:=Hm (HO4.o.then_below hb5);have HB5:=Hm (Qb (Qa HB4.o _) hb5);obtain⟨Q0,Q1,Q2,Q3⟩:=hc5.cells;have QL:=hc5.lt;clear hb5 hbx5 hc5;go_wp2_with fail;clear P0 P1 P2 PL PF Q0 Q1 Q2 Q3 QL;refine (Yi c9 tu _).mono ?_;rintro e w6 ⟨rfl,hb6⟩;have hbx6:=(HBX6.o.set_ 0 (.int .i64 (c9.of tu-c.of tu))).below hb6 (HBX6.o.set_ 0 (.int .i64 (c9.of tu-c.of tu))).lt;simp only[List.setIfInBounds_toArray,List.set_cons_zero] at hbx6;obtain⟨P0,P1,P2⟩:=Yj hbx6;have PL:=hbx6.lt;have HO6:=Hm ((HO5.o.setCell (p:=⟨wr.heap.size,0,none⟩) (.inl rfl) (.int .i64 (c9.of tu-c.of tu))).then_below hb6);have HB6:=Hm (Qb (HB5.o.setCell (p:=⟨wr.heap.size,0,none⟩) hsz (.int .i64 (c9.of tu-c.of tu))) hb6);clear hb6 hbx6;have HOW2:=Hm (Qt HOW.o HO6.o (fun j e1 e2=>by have:=(HOW.o.lt j e1).2;omega));have hk1:k+1≤maxLen:=by unfold maxLen;omega
        have hk2:(k+1)*32≤140737488355328:=by omega
        have hk3:w3.heap.size≤w6.heap.size:=HB6.o.size;go_wp2_with (at_builtin;refine Qx Q9 #[.int .i64 (c9.of tu-c.of tu),.int .i64 0,.string ⟨#[]⟩] HOW2.o rfl rfl rfl rfl (by simp) rfl (Q5 rfl rfl rfl) hk1 hk2 hk3 ?_;intro v9 w9 hown9 hbel9 hgr9 hnew9;obtain⟨A9,k9,rfl⟩:=Qg hown9;have HO9:=Hm hown9;have HB9:=Hm hbel9;clear hown9 hbel9 hgr9 hnew9)
        exact⟨⟨k+1,c9,a+(d:Int),ol++[⟨c9.of tu-c.of tu,0,[]⟩],by go_num,rfl,rfl,by rw[QU,Zu];exact HO9.o,HB6.o.trans HB9.o,by have h:=HI2.o;rw[X9 hd] at h;exact h⟩,by simp only[intOf];omega⟩
       ·have HE:=Hm (HST.o c9 e9 hr9 he9);clear hr9 HST HSP y0 y1 y2 hbx4;go_wp2_with fail;go_ret2
        exact⟨⟨Qb HB3.o (Qa HB4.o _),_,[],e9,rfl,Sl.nil _ _,fun h=>absurd ⟨HU.o,HT.o⟩ h,fun _ h=>absurd (by rw[← HM.o];exact HCK.o.symm) h,fun _ _=>⟨HE.o.symm,by rw[if_neg he9]⟩⟩,frE (Frs.nil _)⟩
     ·obtain rfl:k=n:=by omega
      have HF:=Hm (hI.finish HLN.o.symm);have HLO:=Hm hI.len;have HS9:=Hm (Wao (Sl.of_own hown) ((Frs.of_own hown).mono HB3.o.size));clear hown hbel hI hkle;go_wp2_with fail;go_ret2
      exact⟨⟨Qb HB3.o HB.o,_,ol,0,rfl,by rw[HLO.o];exact HS9.o.1,fun h=>absurd ⟨HU.o,HT.o⟩ h,fun _ h=>absurd (by rw[← HM.o];exact HCK.o.symm) h,fun _ _=>⟨HF.o.2.symm,by rw[if_pos rfl];exact HF.o.1.symm⟩⟩,frE HS9.o.2⟩
   ·go_enter func78,ntmps78
    go_wp2_with (first
     | (go_at_call_of 69 (Value.int .i64 u);refine (inT HU.o _).mono ?_;rintro e w3 ⟨rfl,rfl⟩)
     | (go_at_call_of 69 (Value.int .i64 tu);refine (inT HT.o _).mono ?_;rintro e w3 ⟨rfl,rfl⟩)
     | (go_at_call 49;refine (HC _).out.mono ?_;rintro e w1 ⟨hb1,he,-⟩;obtain rfl:=he rfl;have HB1:=Hm hb1;clear hb1 he;unfold QQ)
     | (go_at_call 124;refine (Yi (cnt R) u _).mono ?_;rintro e w2 ⟨rfl,hb2⟩;rw[← HM.o];have HB2:=Hm (Qb (Qa (Qa HB1.o _) _) hb2);clear hb2)
     | (go_at_call 96;refine (XJ (HSL.o.below HB2.o) HP.o (by omega)).mono ?_;rintro e w3 ⟨rfl,hb3⟩;rw[← HCK.o];have HB3:=Hm (Qb HB2.o hb3);clear hb3))
    go_ret2
    exact⟨⟨HB3.o,_,[],ck,rfl,Sl.nil _ _,fun h=>absurd ⟨HU.o,HT.o⟩ h,fun _ _=>⟨rfl,by rw[← HM.o];exact HCK.o⟩,fun _ h=>absurd (by rw[HCK.o,HM.o];exact h) h0⟩,frE (Frs.nil _)⟩
  ·have HU:=Hm hu;have HT:=Hm ht;clear hu ht;go_enter func78,ntmps78
   go_wp2_with (first
    | (go_at_call_of 69 (Value.int .i64 u);refine (inT HU.o _).mono ?_;rintro e w3 ⟨rfl,rfl⟩)
    | (go_at_call_of 69 (Value.int .i64 tu);refine (inF HT.o _).mono ?_;rintro e w3 ⟨rfl,rfl⟩))
   go_ret2
   exact⟨⟨Wac _ _,_,[],1,rfl,Sl.nil _ _,fun _=>⟨rfl,rfl⟩,fun h=>absurd h.2 HT.o,fun h=>absurd h.2 HT.o⟩,frE (Frs.nil _)⟩
 ·have HU:=Hm hu;clear hu;go_enter func78,ntmps78
  go_wp2_with (go_at_call 69;refine (inF HU.o _).mono ?_;rintro e w3 ⟨rfl,rfl⟩)
  go_ret2
  exact⟨⟨Wac _ _,_,[],1,rfl,Sl.nil _ _,fun _=>⟨rfl,rfl⟩,fun h=>absurd h.1 HU.o,fun h=>absurd h.1 HU.o⟩,frE (Frs.nil _)⟩
end
end Go.Proofs.YtdgdajnbkfmijaaGreatDoor
