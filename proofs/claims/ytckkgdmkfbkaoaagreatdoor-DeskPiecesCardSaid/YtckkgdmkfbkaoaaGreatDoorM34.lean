/- Texts of the proof. -/
import Derived.Test.YtckkgdmkfbkaoaaGreatDoorM33
import Derived.Lib.QuietBelow
namespace Go.Proofs.YtckkgdmkfbkaoaaGreatDoor
open Go.Proofs.Tryz
set_option maxRecDepth 100000
set_option maxHeartbeats 32000000
set_option linter.all false
open Go.RowKit Go.Sort
def Qwb (R:List Int)(l:List PT)(u tu:Int)(w:World)(e:Ending)(w':World):Prop :=
 Below w.heap.size w w'∧∃ v o k,e=.returned (.tuple #[v,erV k])∧Sl w' 3 v o.length (opv o)∧TnR R l u tu o k
def Qd3 (R:List Int)(l:List PT)(u tu:Int)(w:World)(e:Ending)(w':World):Prop:=Qwb R l u tu w e w'∧FrE w.heap.size e
theorem Q3.num {u at_:Int}{R:List Int}{c:Cn}{er:Value}(h:Q3 u at_ R c er):∃ k,er=erV k:=by
 rcases JH h with ⟨e,-⟩ | ⟨k,e,-,hk,-⟩
 ·exact⟨0,e⟩
 ·exact⟨k,by rw[e,ZN (by omega)]⟩
theorem YP {S:Nat→Prop}{w w':World}{g:Nat}{c:Cn}(h:Qg w g c)(ho:Only S w w')(hg:¬ S g):Qg w' g c:=(ho.block g h.lt hg).trans h
section
attribute [local go_sem] Qz Cn.v_eq
theorem Qjn {R:List Int}{l:List PT}{v:Value}{n p:Nat}{t:RT}{u tu:Int}{w:World}(hat:AtR w p t)(hgd:Good t)(hR:R=t.runes)(hgl:Hdl w)(hsl:Sl w 3 v n (opv l))(hp:∀ p∈l,p.put.length≤35184372087808)(ht:1≤tu∧tu≤3)(hn:n≤100000) :
  Calls prog 260 #[.pointer (some ⟨p,0,none⟩),.int .i64 u,.int .i64 tu,v] w (Qd3 R l u tu w):=by
 have hln:l.length=n:=by have:=hsl.len;rw[Zw] at this;omega
 have HAT:=Hm hat
 have HG:=Hm hgd;have HR:=Hm hR;have HGL:=Hm hgl;have HSL:=Hm hsl;have HP:=Hm hp;have HLN:=Hm hln;have HT:=Hm ht;have HBR:Hd (bl R≤8000):=⟨by rw[hR];exact hgd.sz⟩;obtain⟨A,cc,rfl,-⟩:=hsl;clear hp hln hat hgd hR hgl ht
 by_cases hu:1≤u∧u≤3
 ·have HU:=Hm hu;have hu1:¬ u<1:=by omega
  have hu2:¬ 3<u:=by omega
  obtain⟨m,hm⟩:∃ m,m=(cnt R).of u:=⟨_,rfl⟩;have hm0:0≤m:=by rw[hm];exact QJ _ _
  have hm1:m≤40000:=by
   have h1:=of_le (rs:=R) (n:=bl R) (QB R) u
   have:=HBR.o
   omega
  have HM:=Hm hm;clear hu hm;obtain⟨ck,hck⟩:∃ ck,ck=chk l m:=⟨_,rfl⟩;have HCK:=Hm hck;clear hck
  by_cases h0:ck=0
  ·subst h0;obtain⟨hgd,hwas⟩:=J4 HCK.o.symm;have HGD:=Hm hgd;have HWAS:=Hm hwas;clear hgd hwas;go_enter func260,ntmps260
   go_wp2_with (first
     | (go_at_call 209;refine (YB HAT.o).mono ?_;rintro e w1 ⟨rfl,hb1⟩;rw[← HR.o];have HB1:=Hm hb1;clear hb1)
     | (go_at_call 213;refine (QC (cnt R) u _).mono ?_;rintro e w2 ⟨rfl,hb2⟩;rw[← HM.o];have HB2:=Hm (Qa HB1.o hb2);clear hb2)
     | (go_at_call 262;refine (Zv (HGL.o.below HB2.o) (HSL.o.below HB2.o) HP.o (by omega)).mono ?_;rintro e wb ⟨⟨ev,rfl,-,hev⟩,hb3⟩;rw[← HCK.o] at hev;rw[show Q4 0=Value.nilIface from rfl] at hev;obtain rfl:=hev;have HB3:=Hm (Qa HB2.o hb3);clear hb3))
   go_loopw [11,12,37] (fun out av i wr=>∃ (k:Nat) (c:Cn) (a:Int) (ol:List PT),i=.int .i64 (k:Int)∧av=.int .i64 a∧wr.ownsRow (wb.heap.size+1) 117 3 out k (opv ol)∧Qg wr wb.heap.size c∧Below wb.heap.size wb wr∧TnI R u tu l m k c a ol) (fun _ _ i _=>n-(intOf i).toNat)
   case atStart=>exact⟨0,Cn.zero,0,[],rfl,rfl,World.ownsRow_nil _ _ _ _,Wbc wb _,Qb (Wac _ _) _,TnI.start HWAS.o⟩
   case round =>
    obtain⟨k,c,a,ol,rfl,rfl,hown,hcc,hbel,hI⟩:=hrel;have HB:=Hm hbel;have HOW:=Hm hown;have HCC:=Hm hcc;have HI:=Hm hI;obtain⟨Ao,co,rfl⟩:=Qm hown;have hsz:=hbel.size;have hkle:k≤n:=by have:=hI.k_le;have:=HLN.o;omega
    have hc0:=hI.c0;have hc1:=hI.c1
    by_cases hkn:k<n
    ·have hkl:k<l.length:=by have:=HLN.o;omega
     obtain⟨b0,o0,c0,hv,hlt,y0,y1,y2⟩:=(HSL.o.below (Qa HB3.o hbel)).part hkn hkl
     cases hv
     have hbd:=hI.bound HGD.o hkl;have ha0:=hI.a0;have harg:=(HGD.o _ (Wau hkl)).1;have HST:Hd (∀ c9 e,Q3 u (a+(l[k].keep+l[k].drop)) R c9 (erV e)→e≠0→(tnF R u tu Cn.zero 0 l).2=e):=⟨fun c9 e h1 h2=>HI.o.stop hkl h1 h2⟩;have HSP:Hd (∀ c9,Q3 u (a+(l[k].keep+l[k].drop)) R c9 (erV 0)→TnI R u tu l m (k+1) c9 (a+(l[k].keep+l[k].drop)) (ol++[tnP l[k] (c9.of tu-c.of tu)])):=⟨fun c9 h1=>HI.o.step HGD.o hkl (by have:=QB R;have:=HBR.o;omega) h1⟩;clear hown hbel hI HI hcc;generalize l[k]=q at *;rcases harg.cases with ⟨b,hb,rfl⟩ | ⟨d,hd,rfl⟩ | ⟨d,hd,rfl⟩
     ·have hq':(b == [])=false:=by rw[Waf];exact hb
      dsimp only at y0 y1 y2 hbd;have hsz2:a+(0+0)=a:=by omega
      rw[hsz2] at HST HSP hbd;have HBX:Hd (Blk (wr.alloc (.cells #[.int .i64 0,.int .i64 0,.string ⟨b.toArray⟩] 117)) wr.heap.size 117 #[.int .i64 0,.int .i64 0,.string ⟨b.toArray⟩]):=⟨Blk.new _ _ _⟩;have HO3:=Hm ((Only.refl (fun j=>j=wr.heap.size) wr).alloc (.cells #[.int .i64 0,.int .i64 0,.string ⟨b.toArray⟩] 117));clear hsz2;go_wp2_with fail;refine (Jt (HAT.o.below (Qa HB3.o (Qb HB.o _))) HG.o).mono ?_;rintro e w4 ⟨hb4,c9,er9,rfl,hr9⟩;rw[← HR.o] at hr9;obtain⟨e9,rfl⟩:=hr9.num;have hbx4:=HBX.o.below hb4 HBX.o.lt;have HBX4:=Hm (Blk.alloc hbx4 (.cells #[.int .i64 c9.b,.int .i64 c9.h,.int .i64 c9.r,.int .i64 c9.l] 125));have HO4:=Hm ((HO3.o.then_below hb4).alloc (.cells #[.int .i64 c9.b,.int .i64 c9.h,.int .i64 c9.r,.int .i64 c9.l] 125));have HB4:=Hm (Qb (Qa (Qb HB.o _) hb4) (.cells #[.int .i64 c9.b,.int .i64 c9.h,.int .i64 c9.r,.int .i64 c9.l] 125));have HC4:Hd (Qg (w4.alloc (.cells #[.int .i64 c9.b,.int .i64 c9.h,.int .i64 c9.r,.int .i64 c9.l] 125)) w4.heap.size c9):=⟨Wbc w4 _⟩;have hcc4:Qg (w4.alloc (.cells #[.int .i64 c9.b,.int .i64 c9.h,.int .i64 c9.r,.int .i64 c9.l] 125)) wb.heap.size c:=HCC.o.below (Qa (Qa (Qb (Wac _ _) (.cells #[.int .i64 0,.int .i64 0,.string ⟨b.toArray⟩] 117)) hb4) (Qb (Wac _ _) (.cells #[.int .i64 c9.b,.int .i64 c9.h,.int .i64 c9.r,.int .i64 c9.l] 125))) HCC.o.lt;have HCC4:=Hm hcc4;have HNE:Hd (w4.heap.size≠wr.heap.size∧wb.heap.size<wr.heap.size∧wr.heap.size<w4.heap.size):=⟨by have:=hbx4.lt;have:=HCC.o.lt;omega⟩;rw[Cn.v_eq];clear hb4 hcc4
      by_cases he9:e9=0
      ·subst he9;have hI2:=HSP.o c9 hr9;have hx0:=hI2.c0;have hx1:=hI2.c1;have HI2:=Hm hI2;clear hI2 hr9 HST HSP hbx4 y0 y1 y2;rw[show erV 0=Value.nilIface from rfl];go_wp2_with fail;generalize w4.alloc (.cells #[.int .i64 c9.b,.int .i64 c9.h,.int .i64 c9.r,.int .i64 c9.l] 125)=wq at HBX4 HO4 HB4 HC4 HCC4 ⊢;generalize hg4:w4.heap.size=g4 at HC4 HNE ⊢;clear hg4;obtain⟨s0,s1,s2,s3⟩:=HC4.o.cells;obtain⟨r0,r1,r2,r3⟩:=HCC4.o.cells;have ks0:=cell_regrown s0;have ks1:=cell_regrown s1;have ks2:=cell_regrown s2;have ks3:=cell_regrown s3;have kr0:=cell_regrown r0;have kr1:=cell_regrown r1;have kr2:=cell_regrown r2;have kr3:=cell_regrown r3;have hq1:∀ d os,Calls prog 213 #[.agg #[.int .i64 c9.b,.int .i64 c9.h,.int .i64 c9.r,.int .i64 c9.l],.int .i64 tu] (grow (redrawn wq d) os) fun e w''=>e=.returned (.int .i64 (c9.of tu))∧∃ p:Regrown,w''=grow (redrawn wq p.d) p.os:=fun d os=>Calls.regrown_of (QC c9 tu _)
       have hq2:∀ d os,Calls prog 213 #[.agg #[.int .i64 c.b,.int .i64 c.h,.int .i64 c.r,.int .i64 c.l],.int .i64 tu] (grow (redrawn wq d) os) fun e w''=>e=.returned (.int .i64 (c.of tu))∧∃ p:Regrown,w''=grow (redrawn wq p.d) p.os:=fun d os=>Calls.regrown_of (QC c tu _)
       have hwx:IntKind.i64.wrap (c9.of tu-c.of tu)=c9.of tu-c.of tu:=by rw[Waw]<;>omega
       refine wp_region_quiet_below (by kernel_rfl) (by kernel_rfl) ?_
       repeat (quiet_step (first | (go_at_call_of 213 (Value.agg #[.int .i64 c9.b,.int .i64 c9.h,.int .i64 c9.r,.int .i64 c9.l]);exact hq1 _ _) | (go_at_call_of 213 (Value.agg #[.int .i64 c.b,.int .i64 c.h,.int .i64 c.r,.int .i64 c.l]);exact hq2 _ _)))
       refine wpQuiet_nil ?_;rintro _ ⟨⟨dq,oq⟩,rfl⟩;have hbg:=below_regrown wq dq oq;have hbx5:=HBX4.o.below hbg HBX4.o.lt;have hc5:=HC4.o.below hbg HC4.o.lt;have hcc5:=HCC4.o.below hbg HCC4.o.lt;have HBX5:=Hm hbx5;have HC5:=Hm hc5;have HCC5:=Hm hcc5;have HO5:=Hm (HO4.o.then_below hbg);have HB5:=Hm (Qa HB4.o hbg);clear s0 s1 s2 s3 r0 r1 r2 r3 ks0 ks1 ks2 ks3 kr0 kr1 kr2 kr3 hq1 hq2 hwx hbg hbx5 hc5 hcc5 HO4 HB4 HC4 HCC4 HBX4;generalize grow (redrawn wq dq) oq=w5 at HBX5 HC5 HCC5 HO5 HB5 ⊢;obtain⟨P0,P1,P2⟩:=Qd7 HBX5.o;have PL:=HBX5.o.lt;have PF:=HBX5.o.frozen;have HX6:=HBX5;have HO6:=HO5;have HB6:=HB5;have HC6:=HC5;have HCC6:=HCC5;have HOW2:=Hm (Q9 HOW.o HO6.o (fun j e1 e2=>by have:=(HOW.o.lt j e1).2;omega));have hk1:k+1≤maxLen:=by unfold maxLen;omega
       have hk2:(k+1)*32≤140737488355328:=by omega
       have hk3:wb.heap.size+1≤w5.heap.size:=by have:=HCC6.o.lt;omega
       have HOL:Hd (∀ j,(Value.slice Ao k co).ownBlock=some j→wb.heap.size+1≤j∧j<wr.heap.size):=⟨fun j e=>HOW.o.lt j e⟩;go_wp2_with (at_builtin;refine QE QK #[.int .i64 0,.int .i64 0,.string ⟨b.toArray⟩] HOW2.o rfl rfl rfl rfl (by simp) rfl (QP rfl rfl rfl) hk1 hk2 hk3 ?_;intro v9 w9 hown9 hbel9 hgr9 hnew9;obtain⟨A9,k9,rfl⟩:=Qm hown9;have hc9:=YP HC6.o (Only.of_grown hgr9) (fun e=>by have:=(HOL.o _ e.symm).2;have:=HNE.o.2.2;omega);have hcc9:=YP HCC6.o (Only.of_grown hgr9) (fun e=>by have:=(HOL.o _ e.symm).1;omega);obtain⟨s0,s1,s2,s3⟩:=hc9.cells;obtain⟨r0,r1,r2,r3⟩:=hcc9.cells;have rl:=hcc9.lt;have sl:=hc9.lt;have rf:=hcc9.frozen;have hne9:g4≠wb.heap.size:=(by have:=HNE.o;omega);have HC9:=Hm hcc9;have HO9:=Hm hown9;have HB9:=Hm hbel9;clear hown9 hbel9 hgr9 hnew9 hc9 hcc9)
       refine⟨⟨k+1,c9,a,ol++[⟨0,0,b⟩],by go_num,rfl,?_,Qd5 HC9.o c9,?_,by have h:=HI2.o;rw[Jz] at h;exact h⟩,by simp only[intOf];omega⟩
       ·rw[Yo,YV];exact Q9 HO9.o ((((((Only.refl (fun j=>j=wb.heap.size) w9).setCell (p:=⟨wb.heap.size,0,none⟩) (.inl rfl) _).setCell (p:=⟨wb.heap.size,1,none⟩) (.inl rfl) _).setCell (p:=⟨wb.heap.size,2,none⟩) (.inl rfl) _).setCell (p:=⟨wb.heap.size,3,none⟩) (.inl rfl) _)) (fun j e1 e2=>by have:=(HO9.o.lt j e1).1;omega)
       ·exact Qd6 (HB6.o.trans (HB9.o.mono (Nat.le_succ _)))
      ·have HE:=Hm (HST.o c9 e9 hr9 he9);have hne3:e9≠0:=he9;clear hr9 HST HSP y0 y1 y2 hbx4;rw[ZN he9];unfold errno;go_wp2_with fail;go_ret2
       exact⟨⟨Qa HB3.o HB4.o,_,[],e9,by rw[ZN he9];rfl,Sl.nil _ _,fun h=>absurd ⟨HU.o,HT.o⟩ h,fun _ h=>absurd (by rw[← HM.o];exact HCK.o.symm) h,fun _ _=>⟨HE.o.symm,by rw[if_neg he9]⟩⟩,frE (Frs.nil _)⟩
     ·have hd':(0:Int)<(d:Int):=by omega
      dsimp only at y0 y1 y2 hbd;have hsz2:a+(0+(d:Int))=a+(d:Int):=by omega
      rw[hsz2] at HST HSP hbd;have HBX:Hd (Blk (wr.alloc (.cells #[.int .i64 0,.int .i64 (d:Int),.string ⟨#[]⟩] 117)) wr.heap.size 117 #[.int .i64 0,.int .i64 (d:Int),.string ⟨#[]⟩]):=⟨Blk.new _ _ _⟩;have HO3:=Hm ((Only.refl (fun j=>j=wr.heap.size) wr).alloc (.cells #[.int .i64 0,.int .i64 (d:Int),.string ⟨#[]⟩] 117));clear hsz2;go_wp2_with fail;refine (Jt (HAT.o.below (Qa HB3.o (Qb HB.o _))) HG.o).mono ?_;rintro e w4 ⟨hb4,c9,er9,rfl,hr9⟩;rw[← HR.o] at hr9;obtain⟨e9,rfl⟩:=hr9.num;have hbx4:=HBX.o.below hb4 HBX.o.lt;have HBX4:=Hm (Blk.alloc hbx4 (.cells #[.int .i64 c9.b,.int .i64 c9.h,.int .i64 c9.r,.int .i64 c9.l] 125));have HO4:=Hm ((HO3.o.then_below hb4).alloc (.cells #[.int .i64 c9.b,.int .i64 c9.h,.int .i64 c9.r,.int .i64 c9.l] 125));have HB4:=Hm (Qb (Qa (Qb HB.o _) hb4) (.cells #[.int .i64 c9.b,.int .i64 c9.h,.int .i64 c9.r,.int .i64 c9.l] 125));have HC4:Hd (Qg (w4.alloc (.cells #[.int .i64 c9.b,.int .i64 c9.h,.int .i64 c9.r,.int .i64 c9.l] 125)) w4.heap.size c9):=⟨Wbc w4 _⟩;have hcc4:Qg (w4.alloc (.cells #[.int .i64 c9.b,.int .i64 c9.h,.int .i64 c9.r,.int .i64 c9.l] 125)) wb.heap.size c:=HCC.o.below (Qa (Qa (Qb (Wac _ _) (.cells #[.int .i64 0,.int .i64 (d:Int),.string ⟨#[]⟩] 117)) hb4) (Qb (Wac _ _) (.cells #[.int .i64 c9.b,.int .i64 c9.h,.int .i64 c9.r,.int .i64 c9.l] 125))) HCC.o.lt;have HCC4:=Hm hcc4;have HNE:Hd (w4.heap.size≠wr.heap.size∧wb.heap.size<wr.heap.size∧wr.heap.size<w4.heap.size):=⟨by have:=hbx4.lt;have:=HCC.o.lt;omega⟩;rw[Cn.v_eq];clear hb4 hcc4
      by_cases he9:e9=0
      ·subst he9;have hI2:=HSP.o c9 hr9;have hx0:=hI2.c0;have hx1:=hI2.c1;have HI2:=Hm hI2;clear hI2 hr9 HST HSP hbx4 y0 y1 y2;rw[show erV 0=Value.nilIface from rfl];go_wp2_with fail;generalize w4.alloc (.cells #[.int .i64 c9.b,.int .i64 c9.h,.int .i64 c9.r,.int .i64 c9.l] 125)=wq at HBX4 HO4 HB4 HC4 HCC4 ⊢;generalize hg4:w4.heap.size=g4 at HC4 HNE ⊢;clear hg4;obtain⟨s0,s1,s2,s3⟩:=HC4.o.cells;obtain⟨r0,r1,r2,r3⟩:=HCC4.o.cells;have ks0:=cell_regrown s0;have ks1:=cell_regrown s1;have ks2:=cell_regrown s2;have ks3:=cell_regrown s3;have kr0:=cell_regrown r0;have kr1:=cell_regrown r1;have kr2:=cell_regrown r2;have kr3:=cell_regrown r3;have hq1:∀ d os,Calls prog 213 #[.agg #[.int .i64 c9.b,.int .i64 c9.h,.int .i64 c9.r,.int .i64 c9.l],.int .i64 tu] (grow (redrawn wq d) os) fun e w''=>e=.returned (.int .i64 (c9.of tu))∧∃ p:Regrown,w''=grow (redrawn wq p.d) p.os:=fun d os=>Calls.regrown_of (QC c9 tu _)
       have hq2:∀ d os,Calls prog 213 #[.agg #[.int .i64 c.b,.int .i64 c.h,.int .i64 c.r,.int .i64 c.l],.int .i64 tu] (grow (redrawn wq d) os) fun e w''=>e=.returned (.int .i64 (c.of tu))∧∃ p:Regrown,w''=grow (redrawn wq p.d) p.os:=fun d os=>Calls.regrown_of (QC c tu _)
       have hwx:IntKind.i64.wrap (c9.of tu-c.of tu)=c9.of tu-c.of tu:=by rw[Waw]<;>omega
       refine wp_region_quiet_below (by kernel_rfl) (by kernel_rfl) ?_
       repeat (quiet_step (first | (go_at_call_of 213 (Value.agg #[.int .i64 c9.b,.int .i64 c9.h,.int .i64 c9.r,.int .i64 c9.l]);exact hq1 _ _) | (go_at_call_of 213 (Value.agg #[.int .i64 c.b,.int .i64 c.h,.int .i64 c.r,.int .i64 c.l]);exact hq2 _ _)))
       refine wpQuiet_nil ?_;rintro _ ⟨⟨dq,oq⟩,rfl⟩;have hbg:=below_regrown wq dq oq;have hbx5:=HBX4.o.below hbg HBX4.o.lt;have hc5:=HC4.o.below hbg HC4.o.lt;have hcc5:=HCC4.o.below hbg HCC4.o.lt;have HBX5:=Hm hbx5;have HC5:=Hm hc5;have HCC5:=Hm hcc5;have HO5:=Hm (HO4.o.then_below hbg);have HB5:=Hm (Qa HB4.o hbg);clear s0 s1 s2 s3 r0 r1 r2 r3 ks0 ks1 ks2 ks3 kr0 kr1 kr2 kr3 hq1 hq2 hwx hbg hbx5 hc5 hcc5 HO4 HB4 HC4 HCC4 HBX4;generalize grow (redrawn wq dq) oq=w5 at HBX5 HC5 HCC5 HO5 HB5 ⊢;obtain⟨P0,P1,P2⟩:=Qd7 HBX5.o;have PL:=HBX5.o.lt;have PF:=HBX5.o.frozen;have HO1:=Hm ((Only.refl (fun j=>j=wr.heap.size) w5).setCell (p:=⟨wr.heap.size,1,none⟩) (.inl rfl) (.int .i64 (c9.of tu-c.of tu)));have HO6:=Hm (HO5.o.setCell (p:=⟨wr.heap.size,1,none⟩) (.inl rfl) (.int .i64 (c9.of tu-c.of tu)));have HB6:=Hm (HB5.o.setCell (p:=⟨wr.heap.size,1,none⟩) hsz (.int .i64 (c9.of tu-c.of tu)));have HC6:Hd (Qg (w5.setCell ⟨wr.heap.size,1,none⟩ (.int .i64 (c9.of tu-c.of tu))) g4 c9):=⟨YP HC5.o HO1.o HNE.o.1⟩;have HCC6:Hd (Qg (w5.setCell ⟨wr.heap.size,1,none⟩ (.int .i64 (c9.of tu-c.of tu))) wb.heap.size c):=⟨YP HCC5.o HO1.o (by have:=HNE.o.2.1;omega)⟩;have HOW2:=Hm (Q9 HOW.o HO6.o (fun j e1 e2=>by have:=(HOW.o.lt j e1).2;omega));have hk1:k+1≤maxLen:=by unfold maxLen;omega
       have hk2:(k+1)*32≤140737488355328:=by omega
       have hk3:wb.heap.size+1≤(w5.setCell ⟨wr.heap.size,1,none⟩ (.int .i64 (c9.of tu-c.of tu))).heap.size:=by have:=HCC6.o.lt;omega
       have HOL:Hd (∀ j,(Value.slice Ao k co).ownBlock=some j→wb.heap.size+1≤j∧j<wr.heap.size):=⟨fun j e=>HOW.o.lt j e⟩;go_wp2_with (at_builtin;refine QE QK #[.int .i64 0,.int .i64 (c9.of tu-c.of tu),.string ⟨#[]⟩] HOW2.o rfl rfl rfl rfl (by simp) rfl (QP rfl rfl rfl) hk1 hk2 hk3 ?_;intro v9 w9 hown9 hbel9 hgr9 hnew9;obtain⟨A9,k9,rfl⟩:=Qm hown9;have hc9:=YP HC6.o (Only.of_grown hgr9) (fun e=>by have:=(HOL.o _ e.symm).2;have:=HNE.o.2.2;omega);have hcc9:=YP HCC6.o (Only.of_grown hgr9) (fun e=>by have:=(HOL.o _ e.symm).1;omega);obtain⟨s0,s1,s2,s3⟩:=hc9.cells;obtain⟨r0,r1,r2,r3⟩:=hcc9.cells;have rl:=hcc9.lt;have sl:=hc9.lt;have rf:=hcc9.frozen;have hne9:g4≠wb.heap.size:=(by have:=HNE.o;omega);have HC9:=Hm hcc9;have HO9:=Hm hown9;have HB9:=Hm hbel9;clear hown9 hbel9 hgr9 hnew9 hc9 hcc9)
       refine⟨⟨k+1,c9,a+(d:Int),ol++[⟨0,c9.of tu-c.of tu,[]⟩],by go_num,rfl,?_,Qd5 HC9.o c9,?_,by have h:=HI2.o;rw[J2 hd] at h;exact h⟩,by simp only[intOf];omega⟩
       ·rw[Yo,YV];exact Q9 HO9.o ((((((Only.refl (fun j=>j=wb.heap.size) w9).setCell (p:=⟨wb.heap.size,0,none⟩) (.inl rfl) _).setCell (p:=⟨wb.heap.size,1,none⟩) (.inl rfl) _).setCell (p:=⟨wb.heap.size,2,none⟩) (.inl rfl) _).setCell (p:=⟨wb.heap.size,3,none⟩) (.inl rfl) _)) (fun j e1 e2=>by have:=(HO9.o.lt j e1).1;omega)
       ·exact Qd6 (HB6.o.trans (HB9.o.mono (Nat.le_succ _)))
      ·have HE:=Hm (HST.o c9 e9 hr9 he9);have hne3:e9≠0:=he9;clear hr9 HST HSP y0 y1 y2 hbx4;rw[ZN he9];unfold errno;go_wp2_with fail;go_ret2
       exact⟨⟨Qa HB3.o HB4.o,_,[],e9,by rw[ZN he9];rfl,Sl.nil _ _,fun h=>absurd ⟨HU.o,HT.o⟩ h,fun _ h=>absurd (by rw[← HM.o];exact HCK.o.symm) h,fun _ _=>⟨HE.o.symm,by rw[if_neg he9]⟩⟩,frE (Frs.nil _)⟩
     ·have hd':(0:Int)<(d:Int):=by omega
      dsimp only at y0 y1 y2 hbd;have hsz2:a+((d:Int)+0)=a+(d:Int):=by omega
      rw[hsz2] at HST HSP hbd;have HBX:Hd (Blk (wr.alloc (.cells #[.int .i64 (d:Int),.int .i64 0,.string ⟨#[]⟩] 117)) wr.heap.size 117 #[.int .i64 (d:Int),.int .i64 0,.string ⟨#[]⟩]):=⟨Blk.new _ _ _⟩;have HO3:=Hm ((Only.refl (fun j=>j=wr.heap.size) wr).alloc (.cells #[.int .i64 (d:Int),.int .i64 0,.string ⟨#[]⟩] 117));clear hsz2;go_wp2_with fail;refine (Jt (HAT.o.below (Qa HB3.o (Qb HB.o _))) HG.o).mono ?_;rintro e w4 ⟨hb4,c9,er9,rfl,hr9⟩;rw[← HR.o] at hr9;obtain⟨e9,rfl⟩:=hr9.num;have hbx4:=HBX.o.below hb4 HBX.o.lt;have HBX4:=Hm (Blk.alloc hbx4 (.cells #[.int .i64 c9.b,.int .i64 c9.h,.int .i64 c9.r,.int .i64 c9.l] 125));have HO4:=Hm ((HO3.o.then_below hb4).alloc (.cells #[.int .i64 c9.b,.int .i64 c9.h,.int .i64 c9.r,.int .i64 c9.l] 125));have HB4:=Hm (Qb (Qa (Qb HB.o _) hb4) (.cells #[.int .i64 c9.b,.int .i64 c9.h,.int .i64 c9.r,.int .i64 c9.l] 125));have HC4:Hd (Qg (w4.alloc (.cells #[.int .i64 c9.b,.int .i64 c9.h,.int .i64 c9.r,.int .i64 c9.l] 125)) w4.heap.size c9):=⟨Wbc w4 _⟩;have hcc4:Qg (w4.alloc (.cells #[.int .i64 c9.b,.int .i64 c9.h,.int .i64 c9.r,.int .i64 c9.l] 125)) wb.heap.size c:=HCC.o.below (Qa (Qa (Qb (Wac _ _) (.cells #[.int .i64 (d:Int),.int .i64 0,.string ⟨#[]⟩] 117)) hb4) (Qb (Wac _ _) (.cells #[.int .i64 c9.b,.int .i64 c9.h,.int .i64 c9.r,.int .i64 c9.l] 125))) HCC.o.lt;have HCC4:=Hm hcc4;have HNE:Hd (w4.heap.size≠wr.heap.size∧wb.heap.size<wr.heap.size∧wr.heap.size<w4.heap.size):=⟨by have:=hbx4.lt;have:=HCC.o.lt;omega⟩;rw[Cn.v_eq];clear hb4 hcc4
      by_cases he9:e9=0
      ·subst he9;have hI2:=HSP.o c9 hr9;have hx0:=hI2.c0;have hx1:=hI2.c1;have HI2:=Hm hI2;clear hI2 hr9 HST HSP hbx4 y0 y1 y2;rw[show erV 0=Value.nilIface from rfl];go_wp2_with fail;generalize w4.alloc (.cells #[.int .i64 c9.b,.int .i64 c9.h,.int .i64 c9.r,.int .i64 c9.l] 125)=wq at HBX4 HO4 HB4 HC4 HCC4 ⊢;generalize hg4:w4.heap.size=g4 at HC4 HNE ⊢;clear hg4;obtain⟨s0,s1,s2,s3⟩:=HC4.o.cells;obtain⟨r0,r1,r2,r3⟩:=HCC4.o.cells;have ks0:=cell_regrown s0;have ks1:=cell_regrown s1;have ks2:=cell_regrown s2;have ks3:=cell_regrown s3;have kr0:=cell_regrown r0;have kr1:=cell_regrown r1;have kr2:=cell_regrown r2;have kr3:=cell_regrown r3;have hq1:∀ d os,Calls prog 213 #[.agg #[.int .i64 c9.b,.int .i64 c9.h,.int .i64 c9.r,.int .i64 c9.l],.int .i64 tu] (grow (redrawn wq d) os) fun e w''=>e=.returned (.int .i64 (c9.of tu))∧∃ p:Regrown,w''=grow (redrawn wq p.d) p.os:=fun d os=>Calls.regrown_of (QC c9 tu _)
       have hq2:∀ d os,Calls prog 213 #[.agg #[.int .i64 c.b,.int .i64 c.h,.int .i64 c.r,.int .i64 c.l],.int .i64 tu] (grow (redrawn wq d) os) fun e w''=>e=.returned (.int .i64 (c.of tu))∧∃ p:Regrown,w''=grow (redrawn wq p.d) p.os:=fun d os=>Calls.regrown_of (QC c tu _)
       have hwx:IntKind.i64.wrap (c9.of tu-c.of tu)=c9.of tu-c.of tu:=by rw[Waw]<;>omega
       refine wp_region_quiet_below (by kernel_rfl) (by kernel_rfl) ?_
       repeat (quiet_step (first | (go_at_call_of 213 (Value.agg #[.int .i64 c9.b,.int .i64 c9.h,.int .i64 c9.r,.int .i64 c9.l]);exact hq1 _ _) | (go_at_call_of 213 (Value.agg #[.int .i64 c.b,.int .i64 c.h,.int .i64 c.r,.int .i64 c.l]);exact hq2 _ _)))
       refine wpQuiet_nil ?_;rintro _ ⟨⟨dq,oq⟩,rfl⟩;have hbg:=below_regrown wq dq oq;have hbx5:=HBX4.o.below hbg HBX4.o.lt;have hc5:=HC4.o.below hbg HC4.o.lt;have hcc5:=HCC4.o.below hbg HCC4.o.lt;have HBX5:=Hm hbx5;have HC5:=Hm hc5;have HCC5:=Hm hcc5;have HO5:=Hm (HO4.o.then_below hbg);have HB5:=Hm (Qa HB4.o hbg);clear s0 s1 s2 s3 r0 r1 r2 r3 ks0 ks1 ks2 ks3 kr0 kr1 kr2 kr3 hq1 hq2 hwx hbg hbx5 hc5 hcc5 HO4 HB4 HC4 HCC4 HBX4;generalize grow (redrawn wq dq) oq=w5 at HBX5 HC5 HCC5 HO5 HB5 ⊢;obtain⟨P0,P1,P2⟩:=Qd7 HBX5.o;have PL:=HBX5.o.lt;have PF:=HBX5.o.frozen;have HO1:=Hm ((Only.refl (fun j=>j=wr.heap.size) w5).setCell (p:=⟨wr.heap.size,0,none⟩) (.inl rfl) (.int .i64 (c9.of tu-c.of tu)));have HO6:=Hm (HO5.o.setCell (p:=⟨wr.heap.size,0,none⟩) (.inl rfl) (.int .i64 (c9.of tu-c.of tu)));have HB6:=Hm (HB5.o.setCell (p:=⟨wr.heap.size,0,none⟩) hsz (.int .i64 (c9.of tu-c.of tu)));have HC6:Hd (Qg (w5.setCell ⟨wr.heap.size,0,none⟩ (.int .i64 (c9.of tu-c.of tu))) g4 c9):=⟨YP HC5.o HO1.o HNE.o.1⟩;have HCC6:Hd (Qg (w5.setCell ⟨wr.heap.size,0,none⟩ (.int .i64 (c9.of tu-c.of tu))) wb.heap.size c):=⟨YP HCC5.o HO1.o (by have:=HNE.o.2.1;omega)⟩;have HOW2:=Hm (Q9 HOW.o HO6.o (fun j e1 e2=>by have:=(HOW.o.lt j e1).2;omega));have hk1:k+1≤maxLen:=by unfold maxLen;omega
       have hk2:(k+1)*32≤140737488355328:=by omega
       have hk3:wb.heap.size+1≤(w5.setCell ⟨wr.heap.size,0,none⟩ (.int .i64 (c9.of tu-c.of tu))).heap.size:=by have:=HCC6.o.lt;omega
       have HOL:Hd (∀ j,(Value.slice Ao k co).ownBlock=some j→wb.heap.size+1≤j∧j<wr.heap.size):=⟨fun j e=>HOW.o.lt j e⟩;go_wp2_with (at_builtin;refine QE QK #[.int .i64 (c9.of tu-c.of tu),.int .i64 0,.string ⟨#[]⟩] HOW2.o rfl rfl rfl rfl (by simp) rfl (QP rfl rfl rfl) hk1 hk2 hk3 ?_;intro v9 w9 hown9 hbel9 hgr9 hnew9;obtain⟨A9,k9,rfl⟩:=Qm hown9;have hc9:=YP HC6.o (Only.of_grown hgr9) (fun e=>by have:=(HOL.o _ e.symm).2;have:=HNE.o.2.2;omega);have hcc9:=YP HCC6.o (Only.of_grown hgr9) (fun e=>by have:=(HOL.o _ e.symm).1;omega);obtain⟨s0,s1,s2,s3⟩:=hc9.cells;obtain⟨r0,r1,r2,r3⟩:=hcc9.cells;have rl:=hcc9.lt;have sl:=hc9.lt;have rf:=hcc9.frozen;have hne9:g4≠wb.heap.size:=(by have:=HNE.o;omega);have HC9:=Hm hcc9;have HO9:=Hm hown9;have HB9:=Hm hbel9;clear hown9 hbel9 hgr9 hnew9 hc9 hcc9)
       refine⟨⟨k+1,c9,a+(d:Int),ol++[⟨c9.of tu-c.of tu,0,[]⟩],by go_num,rfl,?_,Qd5 HC9.o c9,?_,by have h:=HI2.o;rw[J3 hd] at h;exact h⟩,by simp only[intOf];omega⟩
       ·rw[Yo,YV];exact Q9 HO9.o ((((((Only.refl (fun j=>j=wb.heap.size) w9).setCell (p:=⟨wb.heap.size,0,none⟩) (.inl rfl) _).setCell (p:=⟨wb.heap.size,1,none⟩) (.inl rfl) _).setCell (p:=⟨wb.heap.size,2,none⟩) (.inl rfl) _).setCell (p:=⟨wb.heap.size,3,none⟩) (.inl rfl) _)) (fun j e1 e2=>by have:=(HO9.o.lt j e1).1;omega)
       ·exact Qd6 (HB6.o.trans (HB9.o.mono (Nat.le_succ _)))
      ·have HE:=Hm (HST.o c9 e9 hr9 he9);have hne3:e9≠0:=he9;clear hr9 HST HSP y0 y1 y2 hbx4;rw[ZN he9];unfold errno;go_wp2_with fail;go_ret2
       exact⟨⟨Qa HB3.o HB4.o,_,[],e9,by rw[ZN he9];rfl,Sl.nil _ _,fun h=>absurd ⟨HU.o,HT.o⟩ h,fun _ h=>absurd (by rw[← HM.o];exact HCK.o.symm) h,fun _ _=>⟨HE.o.symm,by rw[if_neg he9]⟩⟩,frE (Frs.nil _)⟩
    ·obtain rfl:k=n:=by omega
     have HF:=Hm (hI.finish HLN.o.symm);have HLO:=Hm hI.len;have HS9:=Hm (Sl.of_own hown);have HF9:Hd (Frs w.heap.size _):=⟨(Frs.of_own hown).mono (by have:=HB3.o.size;omega)⟩;clear hown hbel hI hkle hcc;go_wp2_with fail;go_ret2
     exact⟨⟨Qa HB3.o HB.o,_,ol,0,rfl,by rw[HLO.o];exact HS9.o,fun h=>absurd ⟨HU.o,HT.o⟩ h,fun _ h=>absurd (by rw[← HM.o];exact HCK.o.symm) h,fun _ _=>⟨HF.o.2.symm,by rw[if_pos rfl];exact HF.o.1.symm⟩⟩,frE HF9.o⟩
  ·go_enter func260,ntmps260
   go_wp2_with (first
     | (go_at_call 209;refine (YB HAT.o).mono ?_;rintro e w1 ⟨rfl,hb1⟩;rw[← HR.o];have HB1:=Hm hb1;clear hb1)
     | (go_at_call 213;refine (QC (cnt R) u _).mono ?_;rintro e w2 ⟨rfl,hb2⟩;rw[← HM.o];have HB2:=Hm (Qa HB1.o hb2);clear hb2)
     | (go_at_call 262;refine (Zv (HGL.o.below HB2.o) (HSL.o.below HB2.o) HP.o (by omega)).mono ?_;rintro e wb ⟨⟨ev,rfl,-,hev⟩,hb3⟩;rw[← HCK.o] at hev;rw[show Q4 ck=errno ck from if_neg h0] at hev;obtain rfl:=hev;unfold errno;have HB3:=Hm (Qa HB2.o hb3);clear hb3))
   go_ret2
   exact⟨⟨HB3.o,_,[],ck,by rw[ZN h0];rfl,Sl.nil _ _,fun h=>absurd ⟨HU.o,HT.o⟩ h,fun _ _=>⟨rfl,by rw[← HM.o];exact HCK.o⟩,fun _ h=>absurd (by rw[HCK.o,HM.o];exact h) h0⟩,frE (Frs.nil _)⟩
 ·have HU:=Hm hu
  by_cases hu1:u<1
  ·clear hu;go_enter func260,ntmps260
   go_wp2_with fail;go_ret2
   exact⟨⟨Wac _ _,_,[],1,rfl,Sl.nil _ _,fun _=>⟨rfl,rfl⟩,fun h=>absurd h.1 HU.o,fun h=>absurd h.1 HU.o⟩,frE (Frs.nil _)⟩
  ·have hu2:3<u:=by omega
   clear hu;go_enter func260,ntmps260
   go_wp2_with fail;go_ret2
   exact⟨⟨Wac _ _,_,[],1,rfl,Sl.nil _ _,fun _=>⟨rfl,rfl⟩,fun h=>absurd h.1 HU.o,fun h=>absurd h.1 HU.o⟩,frE (Frs.nil _)⟩
end
end Go.Proofs.YtckkgdmkfbkaoaaGreatDoor
