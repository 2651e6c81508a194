/- Texts of the proof. -/
import Derived.Test.YtdgdajnbkfmijaaGreatDoorM23
import Derived.Test.YtdgdajnbkfmijaaGreatDoorM21
namespace Go.Proofs.YtdgdajnbkfmijaaGreatDoor
open Go.Proofs.Tryz
set_option maxRecDepth 100000
set_option maxHeartbeats 32000000
open Go.RowKit
def gst (g:SS)(k:Nat):GS:=(g.l.take k).foldl GS.step .zero
theorem Qhz {g:SS}{k:Nat}(h:k<g.l.length):gst g (k+1)=((gst g k).gap g.l[k].1 g.l[k].2).byte g.l[k].2:=by
 unfold gst;rw[Wag h,List.foldl_append];rfl
theorem Qp8 (g:SS):gather g=((gst g g.l.length).gap g.e false).fin:=by
 unfold gst gather;rw[Wbe]
def plg (g:SS):Nat:=(g.P.map List.length).sum
theorem Qc6 (s:GS)(b:U.Bs)(x:Bool)(h:0≤s.keep):(s.gap b x).out.length≤s.out.length+1∧(s.gap b x).put.length≤s.put.length+b.length∧(s.gap b x).drop=s.drop∧0≤(s.gap b x).keep∧(s.gap b x).keep≤s.keep:=by
 unfold GS.gap
 split
 ·refine⟨?_,by simp,rfl,Wba _,h⟩;unfold QB
  split<;>simp
 ·exact⟨by omega,by omega,rfl,h,Wba _⟩
theorem Qp9 (s:GS)(x:Bool)(h:0≤s.keep)(hd:0≤s.drop):(s.byte x).out.length≤s.out.length+2∧(s.byte x).put.length≤s.put.length∧0≤(s.byte x).drop∧(s.byte x).drop≤s.drop+1∧0≤(s.byte x).keep∧(s.byte x).keep≤s.keep+1:=by
 unfold GS.byte
 split
 ·exact⟨by dsimp only;omega,Wak _,by dsimp only;omega,Wba _,h,by dsimp only;omega⟩
 ·have:=XI s.put s.drop
  exact⟨by simp;omega,by simp,Wba _,by dsimp only;omega,by dsimp only;omega,Wba _⟩
theorem Qqa (g:SS)(k:Nat)(hk:k≤g.l.length):(gst g k).out.length≤3*k∧(gst g k).put.length≤((g.l.take k).map (fun p=>p.1.length)).sum∧0≤(gst g k).drop∧(gst g k).drop≤k∧0≤(gst g k).keep∧(gst g k).keep≤k:=by
 induction k with
 | zero=>exact⟨by simp[gst,GS.zero],by simp[gst,GS.zero],Wba _,Wba _,Wba _,Wba _⟩
 | succ k ih =>
  obtain⟨a1,a2,a3,a4,a5,a6⟩:=ih (by omega);have hk':k<g.l.length:=by omega
  obtain⟨b1,b2,b3,b4,b5⟩:=Qc6 (gst g k) g.l[k].1 g.l[k].2 a5;obtain⟨c1,c2,c3,c4,c5,c6⟩:=Qp9 ((gst g k).gap g.l[k].1 g.l[k].2) g.l[k].2 b4 (by omega);rw[Qhz hk',Wag hk',Wbo,List.sum_append];simp only[List.map_cons,List.map_nil,List.sum_cons,List.sum_nil]
  exact⟨by omega,by omega,c3,by omega,c5,by omega⟩
theorem Qqb (l:List (U.Bs × Bool))(k:Nat):((l.take k).map (fun p=>p.1.length)).sum≤(l.map (fun p=>p.1.length)).sum:=by
 conv=>rhs;rw[← Wbh k l]
 rw[Wbo,List.sum_append];omega
theorem Qqc (g:SS):plg g=(g.l.map (fun p=>p.1.length)).sum+g.e.length:=by
 unfold plg SS.P;simp[List.map_map,Function.comp_def]
theorem Jz {g:SS}{k:Nat}(h:k<g.l.length):g.P[k]?=some g.l[k].1:=by
 unfold SS.P;rw[List.getElem?_append_left (by simpa using h)];simp[h]
theorem J2 (g:SS):g.P[g.l.length]?=some g.e:=by
 unfold SS.P;rw[Way (by simp)];simp
theorem J3 {g:SS}{k:Nat}(h:k<g.l.length):g.D[k]?=some g.l[k].2:=by
 unfold SS.D;simp[h]
theorem Xm {l:List U.Bs}{k:Nat}{b:U.Bs}{u:Value}(h:l[k]?=some b)(hu:(strs l)[k]?=some u):u=.string ⟨b.toArray⟩:=by
 unfold strs at hu;rw[Wav,h] at hu;simpa using hu.symm
theorem XR {l:List Bool}{k:Nat}{b:Bool}{u:Value}(h:l[k]?=some b)(hu:(bools l)[k]?=some u):u=.bool b:=by
 unfold bools at hu;rw[Wav,h] at hu;simpa using hu.symm
theorem Qqd {l:List Nat}{a:Nat}(h:a∈l):a≤l.sum:=by
 induction l with
 | nil=>simp at h
 | cons b l ih =>
  rw[List.sum_cons];rcases Wbk.1 h with rfl | h
  ·omega
  ·have:=ih h;omega
theorem Qaq {g:SS}{k:Nat}{b:U.Bs}(h:g.P[k]?=some b):b.length≤plg g:=by
 unfold plg;exact Qqd (List.mem_map_of_mem (List.mem_of_getElem? h))
structure GI (w w0:World)(vp vd:Value)(v:Value)(s:GS):Prop where
 ni:NI w (w0.heap.size+1) v ⟨s.out,s.put,s.drop⟩
 box:Blk w w0.heap.size 234 #[vp,vd]
 bel:Below w0.heap.size w0 w
theorem GI.new (w:World)(vp vd:Value):GI ((((w.alloc (.cells #[vp,vd] 234)).alloc (.cells #[.slice none 0 0] 36)).alloc (.cells #[.string ⟨#[]⟩] 9)).alloc (.cells #[.int .i64 0] 3)) w vp vd (.slice none 0 0) .zero:=by
 refine⟨?_,(((Blk.new _ _ _).alloc _).alloc _).alloc _,Qa (Qa (Qa (Qa (Wac _ _) _) _) _) _⟩
 have:=NI.new (w.alloc (.cells #[vp,vd] 234))
 rwa [Waq] at this
theorem Qh0 {w w1:World}{v:Value}{H:Nat}{s:NS}(h:NI w (H+1) v s)(ho:Only (FlS (H+1+1) (H+1) (H+1+1+1) v) w w1){t:TypeId}{cs:Array Value}(hb:Blk w H t cs):Blk w1 H t cs:=by
 refine hb.only ho ?_;rintro (e | e | e | e)
 ·omega
 ·omega
 ·omega
 ·have:=(h.own.lt _ e).1;omega
theorem XT {w w0 w1:World}{v:Value}{s:NS}(hb:Below w0.heap.size w0 w)(h:NI w (w0.heap.size+1) v s)(ho:Only (FlS (w0.heap.size+1+1) (w0.heap.size+1) (w0.heap.size+1+1+1) v) w w1):Below w0.heap.size w0 w1 :=
 hb.trans (ho.below hb.size (fun k hk=>by
  rintro (e | e | e | e)
  ·omega
  ·omega
  ·omega
  ·have:=(h.own.lt _ e).1;omega))
theorem Qar {w w0:World}{vp vd v:Value}{s:GS}(h:GI w w0 vp vd v s):w0.heap.size+1+3≤w.heap.size:=by have:=h.ni.D.lt;omega
theorem GI.more {w w0 w1:World}{vp vd v v1:Value}{s:GS}{k:Int}{N:Nat}(h:GI w w0 vp vd v s)(hN:s.out.length=N)(ho:w1.ownsRow (w0.heap.size+1+3) 113 3 v1 (N+1) (opv s.out++(#[Value.int .i64 k,.int .i64 0,.string ⟨#[]⟩]:Array Value).toList))
  (hb:Below (w0.heap.size+1+3) w w1):GI (w1.setCell ⟨w0.heap.size+1,0,none⟩ v1) w0 vp vd v1 ⟨s.out++[⟨k,0,[]⟩],s.put,s.drop,0⟩:=by
 subst hN;obtain⟨⟨h1,h2,h3,h4⟩,h5,h6⟩:=h
 refine⟨⟨(h1.below hb (by omega)).put1,(h2.below hb (by omega)).far (p:=⟨w0.heap.size+1,0,none⟩) (by simp) _,(h3.below hb (by omega)).far (p:=⟨w0.heap.size+1,0,none⟩) (by simp;omega) _,?_⟩,
  (h5.below hb (by omega)).far (p:=⟨w0.heap.size+1,0,none⟩) (by simp) _,(h6.trans (hb.mono (by omega))).setCell (show w0.heap.size≤w0.heap.size+1 by omega) _⟩
 have:=ownsRow_setCell_other ho (a:=⟨w0.heap.size+1,0,none⟩) (fun e=>by have:=(ho.lt _ e).1;simp at this;omega) v1
 dsimp only;rw[QU,Zu,Wad];exact this
def XU (w0:World)(vp vd:Value)(s:GS)(s6:Value)(wx:World):Prop:=∃ v,s6=.int .i64 s.keep∧GI wx w0 vp vd v s
section
attribute [local go_sem] Qr Xp
def Qqe (l:List PT)(w:World)(e:Ending)(w':World):Prop:=JV l w e w'∧Qdr w.heap.size e
theorem Qc7 {g:SS}{vp vd:Value}{N:Nat}{w:World}(hp:Sl w 1 vp (N+1) (strs g.P))(hd:Sl w 1 vd N (bools g.D))(hN:N≤68719476736)(hl:plg g≤1099511627776) :
  Calls prog 129 #[.agg #[vp,vd]] w (Qqe (gather g) w):=by
 have hgl:g.l.length=N:=by have:=hd.len;simpa [bools,SS.D] using this
 have hpg:=Qqc g;have HPP:=Hm hp;have HDD:=Hm hd;have HGL:=Hm hgl;obtain⟨A1,c1,rfl,-⟩:=hp;obtain⟨A2,c2,rfl,-⟩:=hd;go_enter func129,ntmps129
 go_wp2_with fail
 go_loopw [6,14] (fun kp i wr=>∃ (k:Nat) (v':Value),k≤N∧i=.int .i64 k∧kp=.int .i64 (gst g k).keep∧GI wr w (.slice A1 (N+1) c1) (.slice A2 N c2) v' (gst g k)) (fun _ i _=>N+1-(intOf i).toNat)
 case atStart=>exact⟨0,_,by omega,rfl,rfl,GI.new w _ _⟩
 case round =>
  obtain⟨k,v',hk,rfl,rfl,hgi⟩:=hrel;obtain⟨bd1,bd2,bd3,bd4,bd5,bd6⟩:=Qqa g k (by omega);have hst:=Qqb g.l k;obtain⟨A',k',rfl⟩:=Qg hgi.ni.own;obtain⟨adp,cp,up,hvp,hltp,hup,hcp⟩:=(HPP.o.below hgi.bel).at_ (show k<N+1 by omega)
  cases hvp
  by_cases hk2:k<N
  ·have HPA:=Hm (Jz (g:=g) (k:=k) (by omega));have HDA:=Hm (J3 (g:=g) (k:=k) (by omega));have hbl:=Qaq HPA.o;have HS:=Hm (Qhz (g:=g) (k:=k) (by omega));have HGB:=Hm (Qc6 (gst g k) g.l[k].1 g.l[k].2 bd5);obtain rfl:=Xm HPA.o hup;obtain⟨add0,cd0,ud0,hvd0,hltd0,hud0,hcd0⟩:=(HDD.o.below hgi.bel).at_ hk2
   cases hvd0
   obtain rfl:=XR HDA.o hud0;generalize gst g k=s at *;generalize g.l[k]=bx at *;obtain⟨b,x⟩:=bx;dsimp only at *;have HGI:=Hm hgi;obtain⟨m1,m2,m3,m4,m5,m6⟩:=hgi.ni.cells;have z0:=hgi.ni.O.lt;have z1:=hgi.ni.P.lt;have z2:=hgi.ni.D.lt;have q0:=hgi.box.cell 0;have q1:=hgi.box.cell 1;simp only[Wab,Waa,Wae] at q0 q1;clear hgi hup hltp hud0 hltd0;have hbl':b.length≤1099511627776:=by omega
   have hsl':s.put.length≤1099511627776:=by omega
   have hsd':s.drop≤68719476736:=by omega
   have hsk':s.keep≤68719476736:=by omega
   cases x
   ·by_cases hb:b=[]
    ·subst hb;have HC:Hd (¬ (([]:U.Bs)≠[]∨false=true)):=⟨by simp⟩;go_upto_if 36 with fail
     go_cut [6] (fun s6 wx=>XU w (.slice (some adp) (N+1) c1) (.slice (some add0) N c2) (s.gap [] false) s6 wx)
     case first =>
      have HGE:Hd (s.gap [] false=s):=⟨by unfold GS.gap;rw[if_neg HC.o]⟩;go_wp2_with fail;go_meet
      exact⟨_,by rw[HGE.o],by rw[HGE.o];exact HGI.o⟩
     case rest =>
      obtain⟨v2,rfl,hg4⟩:=hcut;obtain⟨bd7,bd8,bd9,bd10,bd11⟩:=HGB.o;have bd9a:=Int.le_of_eq bd9;have bd9b:=Int.le_of_eq bd9.symm;clear bd9;have HG4:=Hm hg4;obtain⟨add,cd,ud,hvd,hltd,hud,hcd⟩:=(HDD.o.below hg4.bel).at_ hk2
      cases hvd
      obtain rfl:=XR HDA.o hud;clear m1 m2 m3 m4 m5 m6 z0 z1 z2 q0 q1 hcp;obtain⟨m1,m2,m3,m4,m5,m6⟩:=hg4.ni.cells;have z0:=hg4.ni.O.lt;have z1:=hg4.ni.P.lt;have z2:=hg4.ni.D.lt;have q0:=hg4.box.cell 0;have q1:=hg4.box.cell 1;simp only[Wab,Waa,Wae] at q0 q1;obtain⟨A4,k4,rfl⟩:=Qg hg4.ni.own;clear hg4 hud hltd HC;generalize s.gap [] false=s2 at *;have HBY:Hd (s2.byte false=⟨s2.out++Qm s2.put s2.drop,[],0,s2.keep+1⟩):=⟨rfl⟩;have HL4:Hd (s2.out.length≤1099511627776):=⟨by omega⟩;go_wp2_with (go_at_call 157;refine (Xz (base:=w.heap.size+1+3) (bp:=w.heap.size+1+1) (bo:=w.heap.size+1) (bd:=w.heap.size+1+1+1) (by omega) (by omega) (by omega) HG4.o.ni.P HG4.o.ni.O HG4.o.ni.D HG4.o.ni.own HL4.o).mono ?_;rintro e w5 ⟨rfl,v5,f1,f2,f3,f4,f5⟩;obtain⟨A5,k5,rfl⟩:=Qg f2;generalize hN5:(s2.out++Qm s2.put s2.drop).length=N5 at *;have HN5:=Hm hN5;clear hN5;have g1:=f1.cell 0;have g2:=f1.frozen 0;simp only[Wab,Waa] at g1;have HF1:=Hm f1;have HF2:=Hm f2;have HF3:=Hm f3;have HF4:=Hm f4;have HF5:=Hm f5;clear f1 f2 f3 f4 f5)
      exact⟨⟨k+1,_,by omega,by go_num,by rw[HS.o,HBY.o],by rw[HS.o,HBY.o];exact⟨⟨HF1.o,HF3.o,HF4.o,by dsimp only;rw[HN5.o];exact HF2.o⟩,Qh0 HG4.o.ni HF5.o HG4.o.box,XT HG4.o.bel HG4.o.ni HF5.o⟩⟩,by simp only[intOf];omega⟩
    ·have hb':(b == [])=false:=by rw[Waf];exact hb
     have HC:Hd (b≠[]∨false=true):=⟨.inl hb⟩;go_upto_if 36 with fail
     go_cut [6] (fun s6 wx=>XU w (.slice (some adp) (N+1) c1) (.slice (some add0) N c2) (s.gap b false) s6 wx)
     case first =>
      by_cases hkp:0<s.keep
      ·have HL1:Hd (s.out.length+1≤maxLen):=⟨by unfold maxLen;omega⟩;have HL2:Hd ((s.out.length+1)*32≤140737488355328):=⟨by omega⟩;have HL3:Hd (w.heap.size+1+3≤wr.heap.size):=⟨by have:=HGI.o.ni.D.lt;omega⟩;have HGE:Hd (s.gap b false=⟨s.out++[⟨s.keep,0,[]⟩],s.put++b,s.drop,0⟩):=⟨by unfold GS.gap QB;rw[if_pos HC.o,if_pos hkp];try simp⟩;go_upto_region 11 with (at_builtin;refine Qx Q9 #[.int .i64 s.keep,.int .i64 0,.string ⟨#[]⟩] HGI.o.ni.own rfl rfl rfl rfl (by simp) rfl (Q5 rfl rfl rfl) HL1.o HL2.o HL3.o ?_;intro v3 w2 hown3 hbel3 hgr3 hnew3;obtain⟨A3,k3,rfl⟩:=Qg hown3;have f1:=HGI.o.ni.O.below hbel3 (by omega);have g3:=f1.cell 0;have g4:=f1.frozen 0;simp only[Wab,Waa] at g3;have HO3:=Hm hown3;have HB3:=Hm hbel3;clear f1 hown3 hbel3 hgr3 hnew3)
       have hg2:=HGI.o.more rfl HO3.o HB3.o;have HG2:=Hm hg2;obtain⟨adp2,cp2,up2,hvp2,hltp2,hup2,hcp2⟩:=(HPP.o.below hg2.bel).at_ (show k<N+1 by omega)
       cases hvp2
       obtain rfl:=Xm HPA.o hup2;obtain⟨m1b,m2b,m3b,m4b,m5b,m6b⟩:=hg2.ni.cells;have z0b:=hg2.ni.O.lt;have z1b:=hg2.ni.P.lt;have z2b:=hg2.ni.D.lt;have q0b:=hg2.box.cell 0;have q1b:=hg2.box.cell 1;simp only[Wab,Waa,Wae] at q0b q1b;clear hg2 g3 g4 hup2 hltp2;clear m1 m2 m3 m4 m5 m6 z0 z1 z2 q0 q1 hcp;generalize (w2.setCell ⟨w.heap.size+1,0,none⟩ (.slice A3 (s.out.length+1) k3))=W at *;go_region
       go_wp2_with fail;go_meet
       exact⟨_,by rw[HGE.o],by rw[HGE.o];exact⟨(HG2.o.ni.setP _).drew,HG2.o.box.far (p:=⟨w.heap.size+1+1,0,none⟩) (by simp;omega) _,Qe (HG2.o.bel.setCell (show w.heap.size≤w.heap.size+1+1 by omega) _)⟩⟩
      ·have HGE:Hd (s.gap b false=⟨s.out,s.put++b,s.drop,0⟩):=⟨by unfold GS.gap QB;rw[if_pos HC.o,if_neg hkp];simp⟩;have hk0:s.keep=0:=by omega
       have HK0:=Hm hk0;clear hk0;go_upto_region 11 with fail
       go_region
       go_wp2_with fail;go_meet
       exact⟨_,by rw[HGE.o,HK0.o],by rw[HGE.o];exact⟨(HGI.o.ni.setP _).drew,HGI.o.box.far (p:=⟨w.heap.size+1+1,0,none⟩) (by simp;omega) _,Qe (HGI.o.bel.setCell (show w.heap.size≤w.heap.size+1+1 by omega) _)⟩⟩
     case rest =>
      obtain⟨v2,rfl,hg4⟩:=hcut;obtain⟨bd7,bd8,bd9,bd10,bd11⟩:=HGB.o;have bd9a:=Int.le_of_eq bd9;have bd9b:=Int.le_of_eq bd9.symm;clear bd9;have HG4:=Hm hg4;obtain⟨add,cd,ud,hvd,hltd,hud,hcd⟩:=(HDD.o.below hg4.bel).at_ hk2
      cases hvd
      obtain rfl:=XR HDA.o hud;clear m1 m2 m3 m4 m5 m6 z0 z1 z2 q0 q1 hcp;obtain⟨m1,m2,m3,m4,m5,m6⟩:=hg4.ni.cells;have z0:=hg4.ni.O.lt;have z1:=hg4.ni.P.lt;have z2:=hg4.ni.D.lt;have q0:=hg4.box.cell 0;have q1:=hg4.box.cell 1;simp only[Wab,Waa,Wae] at q0 q1;obtain⟨A4,k4,rfl⟩:=Qg hg4.ni.own;clear hg4 hud hltd HC;generalize s.gap b false=s2 at *;have HBY:Hd (s2.byte false=⟨s2.out++Qm s2.put s2.drop,[],0,s2.keep+1⟩):=⟨rfl⟩;have HL4:Hd (s2.out.length≤1099511627776):=⟨by omega⟩;go_wp2_with (go_at_call 157;refine (Xz (base:=w.heap.size+1+3) (bp:=w.heap.size+1+1) (bo:=w.heap.size+1) (bd:=w.heap.size+1+1+1) (by omega) (by omega) (by omega) HG4.o.ni.P HG4.o.ni.O HG4.o.ni.D HG4.o.ni.own HL4.o).mono ?_;rintro e w5 ⟨rfl,v5,f1,f2,f3,f4,f5⟩;obtain⟨A5,k5,rfl⟩:=Qg f2;generalize hN5:(s2.out++Qm s2.put s2.drop).length=N5 at *;have HN5:=Hm hN5;clear hN5;have g1:=f1.cell 0;have g2:=f1.frozen 0;simp only[Wab,Waa] at g1;have HF1:=Hm f1;have HF2:=Hm f2;have HF3:=Hm f3;have HF4:=Hm f4;have HF5:=Hm f5;clear f1 f2 f3 f4 f5)
      exact⟨⟨k+1,_,by omega,by go_num,by rw[HS.o,HBY.o],by rw[HS.o,HBY.o];exact⟨⟨HF1.o,HF3.o,HF4.o,by dsimp only;rw[HN5.o];exact HF2.o⟩,Qh0 HG4.o.ni HF5.o HG4.o.box,XT HG4.o.bel HG4.o.ni HF5.o⟩⟩,by simp only[intOf];omega⟩
   ·by_cases hb:b=[]
    ·subst hb;have HC:Hd (([]:U.Bs)≠[]∨true=true):=⟨.inr rfl⟩;go_upto_if 36 with fail
     go_cut [6] (fun s6 wx=>XU w (.slice (some adp) (N+1) c1) (.slice (some add0) N c2) (s.gap [] true) s6 wx)
     case first =>
      by_cases hkp:0<s.keep
      ·have HL1:Hd (s.out.length+1≤maxLen):=⟨by unfold maxLen;omega⟩;have HL2:Hd ((s.out.length+1)*32≤140737488355328):=⟨by omega⟩;have HL3:Hd (w.heap.size+1+3≤wr.heap.size):=⟨by have:=HGI.o.ni.D.lt;omega⟩;have HGE:Hd (s.gap [] true=⟨s.out++[⟨s.keep,0,[]⟩],s.put,s.drop,0⟩):=⟨by unfold GS.gap QB;rw[if_pos HC.o,if_pos hkp];try simp⟩;go_upto_region 11 with (at_builtin;refine Qx Q9 #[.int .i64 s.keep,.int .i64 0,.string ⟨#[]⟩] HGI.o.ni.own rfl rfl rfl rfl (by simp) rfl (Q5 rfl rfl rfl) HL1.o HL2.o HL3.o ?_;intro v3 w2 hown3 hbel3 hgr3 hnew3;obtain⟨A3,k3,rfl⟩:=Qg hown3;have f1:=HGI.o.ni.O.below hbel3 (by omega);have g3:=f1.cell 0;have g4:=f1.frozen 0;simp only[Wab,Waa] at g3;have HO3:=Hm hown3;have HB3:=Hm hbel3;clear f1 hown3 hbel3 hgr3 hnew3)
       have hg2:=HGI.o.more rfl HO3.o HB3.o;have HG2:=Hm hg2;obtain⟨adp2,cp2,up2,hvp2,hltp2,hup2,hcp2⟩:=(HPP.o.below hg2.bel).at_ (show k<N+1 by omega)
       cases hvp2
       obtain rfl:=Xm HPA.o hup2;obtain⟨m1b,m2b,m3b,m4b,m5b,m6b⟩:=hg2.ni.cells;have z0b:=hg2.ni.O.lt;have z1b:=hg2.ni.P.lt;have z2b:=hg2.ni.D.lt;have q0b:=hg2.box.cell 0;have q1b:=hg2.box.cell 1;simp only[Wab,Waa,Wae] at q0b q1b;clear hg2 g3 g4 hup2 hltp2;clear m1 m2 m3 m4 m5 m6 z0 z1 z2 q0 q1 hcp;generalize (w2.setCell ⟨w.heap.size+1,0,none⟩ (.slice A3 (s.out.length+1) k3))=W at *;go_region
       go_wp2_with fail;go_meet
       exact⟨_,by rw[HGE.o],by rw[HGE.o];exact⟨(HG2.o.ni.setP _).drew,HG2.o.box.far (p:=⟨w.heap.size+1+1,0,none⟩) (by simp;omega) _,Qe (HG2.o.bel.setCell (show w.heap.size≤w.heap.size+1+1 by omega) _)⟩⟩
      ·have HGE:Hd (s.gap [] true=⟨s.out,s.put,s.drop,0⟩):=⟨by unfold GS.gap QB;rw[if_pos HC.o,if_neg hkp];simp⟩;have hk0:s.keep=0:=by omega
       have HK0:=Hm hk0;clear hk0;go_upto_region 11 with fail
       go_region
       go_wp2_with fail;go_meet
       exact⟨_,by rw[HGE.o,HK0.o],by rw[HGE.o];exact⟨(HGI.o.ni.setP _).drew,HGI.o.box.far (p:=⟨w.heap.size+1+1,0,none⟩) (by simp;omega) _,Qe (HGI.o.bel.setCell (show w.heap.size≤w.heap.size+1+1 by omega) _)⟩⟩
     case rest =>
      obtain⟨v2,rfl,hg4⟩:=hcut;obtain⟨bd7,bd8,bd9,bd10,bd11⟩:=HGB.o;have bd9a:=Int.le_of_eq bd9;have bd9b:=Int.le_of_eq bd9.symm;clear bd9;have HG4:=Hm hg4;obtain⟨add,cd,ud,hvd,hltd,hud,hcd⟩:=(HDD.o.below hg4.bel).at_ hk2
      cases hvd
      obtain rfl:=XR HDA.o hud;clear m1 m2 m3 m4 m5 m6 z0 z1 z2 q0 q1 hcp;obtain⟨m1,m2,m3,m4,m5,m6⟩:=hg4.ni.cells;have z0:=hg4.ni.O.lt;have z1:=hg4.ni.P.lt;have z2:=hg4.ni.D.lt;have q0:=hg4.box.cell 0;have q1:=hg4.box.cell 1;simp only[Wab,Waa,Wae] at q0 q1;obtain⟨A4,k4,rfl⟩:=Qg hg4.ni.own;clear hg4 hud hltd HC;generalize s.gap [] true=s2 at *;have HBY:Hd (s2.byte true=⟨s2.out,s2.put,s2.drop+1,s2.keep⟩):=⟨rfl⟩;go_wp2_with fail
      exact⟨⟨k+1,_,by omega,by go_num,by rw[HS.o,HBY.o],by rw[HS.o,HBY.o];exact⟨HG4.o.ni.setD _,HG4.o.box.far (p:=⟨w.heap.size+1+1+1,0,none⟩) (by simp;omega) _,HG4.o.bel.setCell (show w.heap.size≤w.heap.size+1+1+1 by omega) _⟩⟩,by simp only[intOf];omega⟩
    ·have hb':(b == [])=false:=by rw[Waf];exact hb
     have HC:Hd (b≠[]∨true=true):=⟨.inl hb⟩;go_upto_if 36 with fail
     go_cut [6] (fun s6 wx=>XU w (.slice (some adp) (N+1) c1) (.slice (some add0) N c2) (s.gap b true) s6 wx)
     case first =>
      by_cases hkp:0<s.keep
      ·have HL1:Hd (s.out.length+1≤maxLen):=⟨by unfold maxLen;omega⟩;have HL2:Hd ((s.out.length+1)*32≤140737488355328):=⟨by omega⟩;have HL3:Hd (w.heap.size+1+3≤wr.heap.size):=⟨by have:=HGI.o.ni.D.lt;omega⟩;have HGE:Hd (s.gap b true=⟨s.out++[⟨s.keep,0,[]⟩],s.put++b,s.drop,0⟩):=⟨by unfold GS.gap QB;rw[if_pos HC.o,if_pos hkp];try simp⟩;go_upto_region 11 with (at_builtin;refine Qx Q9 #[.int .i64 s.keep,.int .i64 0,.string ⟨#[]⟩] HGI.o.ni.own rfl rfl rfl rfl (by simp) rfl (Q5 rfl rfl rfl) HL1.o HL2.o HL3.o ?_;intro v3 w2 hown3 hbel3 hgr3 hnew3;obtain⟨A3,k3,rfl⟩:=Qg hown3;have f1:=HGI.o.ni.O.below hbel3 (by omega);have g3:=f1.cell 0;have g4:=f1.frozen 0;simp only[Wab,Waa] at g3;have HO3:=Hm hown3;have HB3:=Hm hbel3;clear f1 hown3 hbel3 hgr3 hnew3)
       have hg2:=HGI.o.more rfl HO3.o HB3.o;have HG2:=Hm hg2;obtain⟨adp2,cp2,up2,hvp2,hltp2,hup2,hcp2⟩:=(HPP.o.below hg2.bel).at_ (show k<N+1 by omega)
       cases hvp2
       obtain rfl:=Xm HPA.o hup2;obtain⟨m1b,m2b,m3b,m4b,m5b,m6b⟩:=hg2.ni.cells;have z0b:=hg2.ni.O.lt;have z1b:=hg2.ni.P.lt;have z2b:=hg2.ni.D.lt;have q0b:=hg2.box.cell 0;have q1b:=hg2.box.cell 1;simp only[Wab,Waa,Wae] at q0b q1b;clear hg2 g3 g4 hup2 hltp2;clear m1 m2 m3 m4 m5 m6 z0 z1 z2 q0 q1 hcp;generalize (w2.setCell ⟨w.heap.size+1,0,none⟩ (.slice A3 (s.out.length+1) k3))=W at *;go_region
       go_wp2_with fail;go_meet
       exact⟨_,by rw[HGE.o],by rw[HGE.o];exact⟨(HG2.o.ni.setP _).drew,HG2.o.box.far (p:=⟨w.heap.size+1+1,0,none⟩) (by simp;omega) _,Qe (HG2.o.bel.setCell (show w.heap.size≤w.heap.size+1+1 by omega) _)⟩⟩
      ·have HGE:Hd (s.gap b true=⟨s.out,s.put++b,s.drop,0⟩):=⟨by unfold GS.gap QB;rw[if_pos HC.o,if_neg hkp];simp⟩;have hk0:s.keep=0:=by omega
       have HK0:=Hm hk0;clear hk0;go_upto_region 11 with fail
       go_region
       go_wp2_with fail;go_meet
       exact⟨_,by rw[HGE.o,HK0.o],by rw[HGE.o];exact⟨(HGI.o.ni.setP _).drew,HGI.o.box.far (p:=⟨w.heap.size+1+1,0,none⟩) (by simp;omega) _,Qe (HGI.o.bel.setCell (show w.heap.size≤w.heap.size+1+1 by omega) _)⟩⟩
     case rest =>
      obtain⟨v2,rfl,hg4⟩:=hcut;obtain⟨bd7,bd8,bd9,bd10,bd11⟩:=HGB.o;have bd9a:=Int.le_of_eq bd9;have bd9b:=Int.le_of_eq bd9.symm;clear bd9;have HG4:=Hm hg4;obtain⟨add,cd,ud,hvd,hltd,hud,hcd⟩:=(HDD.o.below hg4.bel).at_ hk2
      cases hvd
      obtain rfl:=XR HDA.o hud;clear m1 m2 m3 m4 m5 m6 z0 z1 z2 q0 q1 hcp;obtain⟨m1,m2,m3,m4,m5,m6⟩:=hg4.ni.cells;have z0:=hg4.ni.O.lt;have z1:=hg4.ni.P.lt;have z2:=hg4.ni.D.lt;have q0:=hg4.box.cell 0;have q1:=hg4.box.cell 1;simp only[Wab,Waa,Wae] at q0 q1;obtain⟨A4,k4,rfl⟩:=Qg hg4.ni.own;clear hg4 hud hltd HC;generalize s.gap b true=s2 at *;have HBY:Hd (s2.byte true=⟨s2.out,s2.put,s2.drop+1,s2.keep⟩):=⟨rfl⟩;go_wp2_with fail
      exact⟨⟨k+1,_,by omega,by go_num,by rw[HS.o,HBY.o],by rw[HS.o,HBY.o];exact⟨HG4.o.ni.setD _,HG4.o.box.far (p:=⟨w.heap.size+1+1+1,0,none⟩) (by simp;omega) _,HG4.o.bel.setCell (show w.heap.size≤w.heap.size+1+1+1 by omega) _⟩⟩,by simp only[intOf];omega⟩
  ·obtain rfl:k=N:=by omega
   have HPA:Hd (g.P[k]?=some g.e):=⟨by rw[← hgl];exact J2 g⟩;have hbl:=Qaq HPA.o;have HGB:=Hm (Qc6 (gst g k) g.e false bd5);have HALL:Hd (gather g=((gst g k).gap g.e false).fin):=⟨by rw[Qp8,hgl]⟩;obtain rfl:=Xm HPA.o hup;generalize gst g k=s at *;generalize g.e=b at *;have HGI:=Hm hgi;obtain⟨m1,m2,m3,m4,m5,m6⟩:=hgi.ni.cells;have z0:=hgi.ni.O.lt;have z1:=hgi.ni.P.lt;have z2:=hgi.ni.D.lt;have q0:=hgi.box.cell 0;have q1:=hgi.box.cell 1;simp only[Wab,Waa,Wae] at q0 q1;clear hgi hup hltp;have hbl':b.length≤1099511627776:=by omega
   have hsl':s.put.length≤1099511627776:=by omega
   have hsd':s.drop≤68719476736:=by omega
   have hsk':s.keep≤68719476736:=by omega
   by_cases hb:b=[]
   ·subst hb;have HC:Hd (¬ (([]:U.Bs)≠[]∨false=true)):=⟨by simp⟩;go_upto_if 36 with fail
    go_cut [6] (fun s6 wx=>XU w (.slice (some adp) (k+1) c1) (.slice A2 k c2) (s.gap [] false) s6 wx)
    case first =>
     have HGE:Hd (s.gap [] false=s):=⟨by unfold GS.gap;rw[if_neg HC.o]⟩;go_wp2_with fail;go_meet
     exact⟨_,by rw[HGE.o],by rw[HGE.o];exact HGI.o⟩
    case rest =>
     obtain⟨v2,rfl,hg4⟩:=hcut;obtain⟨bd7,bd8,bd9,bd10,bd11⟩:=HGB.o;have bd9a:=Int.le_of_eq bd9;have bd9b:=Int.le_of_eq bd9.symm;clear bd9;have HG4:=Hm hg4;clear m1 m2 m3 m4 m5 m6 z0 z1 z2 q0 q1 hcp;obtain⟨m1,m2,m3,m4,m5,m6⟩:=hg4.ni.cells;have z0:=hg4.ni.O.lt;have z1:=hg4.ni.P.lt;have z2:=hg4.ni.D.lt;have q0:=hg4.box.cell 0;have q1:=hg4.box.cell 1;simp only[Wab,Waa,Wae] at q0 q1;obtain⟨A4,k4,rfl⟩:=Qg hg4.ni.own;clear hg4 HC;generalize s.gap [] false=s2 at *;have HL4:Hd (s2.out.length+1≤1099511627776):=⟨by omega⟩
     by_cases hk3:0<s2.keep
     ·have HL1:Hd (s2.out.length+1≤maxLen):=⟨by unfold maxLen;omega⟩;have HL2:Hd ((s2.out.length+1)*32≤140737488355328):=⟨by omega⟩;have HL3:Hd (w.heap.size+1+3≤wc.heap.size):=⟨by have:=HG4.o.ni.D.lt;omega⟩;have HL4:Hd ((s2.out++[(⟨s2.keep,0,[]⟩:PT)]).length≤1099511627776):=⟨by rw[Wad];exact HL4.o⟩;have HFI:Hd (gather g=s2.out++[⟨s2.keep,0,[]⟩]++Qm s2.put s2.drop):=⟨by rw[HALL.o];unfold GS.fin QB;rw[if_pos hk3]⟩;go_upto_region 20 with (at_builtin;refine Qx Q9 #[.int .i64 s2.keep,.int .i64 0,.string ⟨#[]⟩] HG4.o.ni.own rfl rfl rfl rfl (by simp) rfl (Q5 rfl rfl rfl) HL1.o HL2.o HL3.o ?_;intro v3 w2 hown3 hbel3 hgr3 hnew3;obtain⟨A3,k3,rfl⟩:=Qg hown3;have f1:=HG4.o.ni.O.below hbel3 (by omega);have g3:=f1.cell 0;have g4:=f1.frozen 0;simp only[Wab,Waa] at g3;have HG6:=Hm (HG4.o.more rfl hown3 hbel3);clear f1 hown3 hbel3 hgr3 hnew3)
      have hq:=HG6.o;obtain⟨m1b,m2b,m3b,m4b,m5b,m6b⟩:=hq.ni.cells;have z0b:=hq.ni.O.lt;have z1b:=hq.ni.P.lt;have z2b:=hq.ni.D.lt;have q0b:=hq.box.cell 0;have q1b:=hq.box.cell 1;simp only[Wab,Waa,Wae] at q0b q1b;clear hq g3 g4;clear m1 m2 m3 m4 m5 m6 z0 z1 z2 q0 q1;generalize (w2.setCell ⟨w.heap.size+1,0,none⟩ (.slice A3 (s2.out.length+1) k3))=W at *;go_wp2_with (go_at_call 157;refine (Xz (out:=(s2.out++[(⟨s2.keep,0,[]⟩:PT)])) (base:=w.heap.size+1+3) (bp:=w.heap.size+1+1) (bo:=w.heap.size+1) (bd:=w.heap.size+1+1+1) (by omega) (Qar HG6.o) (by omega) HG6.o.ni.P HG6.o.ni.O HG6.o.ni.D HG6.o.ni.own HL4.o).mono ?_;rintro e w5 ⟨rfl,v5,f1,f2,f3,f4,f5⟩;obtain⟨A5,k5,rfl⟩:=Qg f2;generalize hN5:((s2.out++[(⟨s2.keep,0,[]⟩:PT)])++Qm s2.put s2.drop).length=N5 at *;have HN5:=Hm hN5;clear hN5;have g1:=f1.cell 0;simp only[Wab,Waa] at g1;have HF2:=Hm f2;have HF5:=Hm f5;clear f1 f2 f3 f4 f5)
      go_ret
      exact⟨⟨⟨_,rfl,by rw[HFI.o,HN5.o];exact Sl.of_own HF2.o⟩,XT HG6.o.bel HG6.o.ni HF5.o⟩,J9 ((Frs.of_own HF2.o).mono (by omega))⟩
     ·have HFI:Hd (gather g=s2.out++Qm s2.put s2.drop):=⟨by rw[HALL.o];unfold GS.fin QB;rw[if_neg hk3];simp⟩;have HL4:Hd (s2.out.length≤1099511627776):=⟨by have:=HL4.o;omega⟩;go_wp2_with (go_at_call 157;refine (Xz (out:=s2.out) (base:=w.heap.size+1+3) (bp:=w.heap.size+1+1) (bo:=w.heap.size+1) (bd:=w.heap.size+1+1+1) (by omega) (Qar HG4.o) (by omega) HG4.o.ni.P HG4.o.ni.O HG4.o.ni.D HG4.o.ni.own HL4.o).mono ?_;rintro e w5 ⟨rfl,v5,f1,f2,f3,f4,f5⟩;obtain⟨A5,k5,rfl⟩:=Qg f2;generalize hN5:(s2.out++Qm s2.put s2.drop).length=N5 at *;have HN5:=Hm hN5;clear hN5;have g1:=f1.cell 0;simp only[Wab,Waa] at g1;have HF2:=Hm f2;have HF5:=Hm f5;clear f1 f2 f3 f4 f5)
      go_ret
      exact⟨⟨⟨_,rfl,by rw[HFI.o,HN5.o];exact Sl.of_own HF2.o⟩,XT HG4.o.bel HG4.o.ni HF5.o⟩,J9 ((Frs.of_own HF2.o).mono (by omega))⟩
   ·have hb':(b == [])=false:=by rw[Waf];exact hb
    have HC:Hd (b≠[]∨false=true):=⟨.inl hb⟩;go_upto_if 36 with fail
    go_cut [6] (fun s6 wx=>XU w (.slice (some adp) (k+1) c1) (.slice A2 k c2) (s.gap b false) s6 wx)
    case first =>
     by_cases hkp:0<s.keep
     ·have HL1:Hd (s.out.length+1≤maxLen):=⟨by unfold maxLen;omega⟩;have HL2:Hd ((s.out.length+1)*32≤140737488355328):=⟨by omega⟩;have HL3:Hd (w.heap.size+1+3≤wr.heap.size):=⟨by have:=HGI.o.ni.D.lt;omega⟩;have HGE:Hd (s.gap b false=⟨s.out++[⟨s.keep,0,[]⟩],s.put++b,s.drop,0⟩):=⟨by unfold GS.gap QB;rw[if_pos HC.o,if_pos hkp];try simp⟩;go_upto_region 11 with (at_builtin;refine Qx Q9 #[.int .i64 s.keep,.int .i64 0,.string ⟨#[]⟩] HGI.o.ni.own rfl rfl rfl rfl (by simp) rfl (Q5 rfl rfl rfl) HL1.o HL2.o HL3.o ?_;intro v3 w2 hown3 hbel3 hgr3 hnew3;obtain⟨A3,k3,rfl⟩:=Qg hown3;have f1:=HGI.o.ni.O.below hbel3 (by omega);have g3:=f1.cell 0;have g4:=f1.frozen 0;simp only[Wab,Waa] at g3;have HO3:=Hm hown3;have HB3:=Hm hbel3;clear f1 hown3 hbel3 hgr3 hnew3)
      have hg2:=HGI.o.more rfl HO3.o HB3.o;have HG2:=Hm hg2;obtain⟨adp2,cp2,up2,hvp2,hltp2,hup2,hcp2⟩:=(HPP.o.below hg2.bel).at_ (show k<k+1 by omega)
      cases hvp2
      obtain rfl:=Xm HPA.o hup2;obtain⟨m1b,m2b,m3b,m4b,m5b,m6b⟩:=hg2.ni.cells;have z0b:=hg2.ni.O.lt;have z1b:=hg2.ni.P.lt;have z2b:=hg2.ni.D.lt;have q0b:=hg2.box.cell 0;have q1b:=hg2.box.cell 1;simp only[Wab,Waa,Wae] at q0b q1b;clear hg2 g3 g4 hup2 hltp2;clear m1 m2 m3 m4 m5 m6 z0 z1 z2 q0 q1 hcp;generalize (w2.setCell ⟨w.heap.size+1,0,none⟩ (.slice A3 (s.out.length+1) k3))=W at *;go_region
      go_wp2_with fail;go_meet
      exact⟨_,by rw[HGE.o],by rw[HGE.o];exact⟨(HG2.o.ni.setP _).drew,HG2.o.box.far (p:=⟨w.heap.size+1+1,0,none⟩) (by simp;omega) _,Qe (HG2.o.bel.setCell (show w.heap.size≤w.heap.size+1+1 by omega) _)⟩⟩
     ·have HGE:Hd (s.gap b false=⟨s.out,s.put++b,s.drop,0⟩):=⟨by unfold GS.gap QB;rw[if_pos HC.o,if_neg hkp];simp⟩;have hk0:s.keep=0:=by omega
      have HK0:=Hm hk0;clear hk0;go_upto_region 11 with fail
      go_region
      go_wp2_with fail;go_meet
      exact⟨_,by rw[HGE.o,HK0.o],by rw[HGE.o];exact⟨(HGI.o.ni.setP _).drew,HGI.o.box.far (p:=⟨w.heap.size+1+1,0,none⟩) (by simp;omega) _,Qe (HGI.o.bel.setCell (show w.heap.size≤w.heap.size+1+1 by omega) _)⟩⟩
    case rest =>
     obtain⟨v2,rfl,hg4⟩:=hcut;obtain⟨bd7,bd8,bd9,bd10,bd11⟩:=HGB.o;have bd9a:=Int.le_of_eq bd9;have bd9b:=Int.le_of_eq bd9.symm;clear bd9;have HG4:=Hm hg4;clear m1 m2 m3 m4 m5 m6 z0 z1 z2 q0 q1 hcp;obtain⟨m1,m2,m3,m4,m5,m6⟩:=hg4.ni.cells;have z0:=hg4.ni.O.lt;have z1:=hg4.ni.P.lt;have z2:=hg4.ni.D.lt;have q0:=hg4.box.cell 0;have q1:=hg4.box.cell 1;simp only[Wab,Waa,Wae] at q0 q1;obtain⟨A4,k4,rfl⟩:=Qg hg4.ni.own;clear hg4 HC;generalize s.gap b false=s2 at *;have HL4:Hd (s2.out.length+1≤1099511627776):=⟨by omega⟩
     by_cases hk3:0<s2.keep
     ·have HL1:Hd (s2.out.length+1≤maxLen):=⟨by unfold maxLen;omega⟩;have HL2:Hd ((s2.out.length+1)*32≤140737488355328):=⟨by omega⟩;have HL3:Hd (w.heap.size+1+3≤wc.heap.size):=⟨by have:=HG4.o.ni.D.lt;omega⟩;have HL4:Hd ((s2.out++[(⟨s2.keep,0,[]⟩:PT)]).length≤1099511627776):=⟨by rw[Wad];exact HL4.o⟩;have HFI:Hd (gather g=s2.out++[⟨s2.keep,0,[]⟩]++Qm s2.put s2.drop):=⟨by rw[HALL.o];unfold GS.fin QB;rw[if_pos hk3]⟩;go_upto_region 20 with (at_builtin;refine Qx Q9 #[.int .i64 s2.keep,.int .i64 0,.string ⟨#[]⟩] HG4.o.ni.own rfl rfl rfl rfl (by simp) rfl (Q5 rfl rfl rfl) HL1.o HL2.o HL3.o ?_;intro v3 w2 hown3 hbel3 hgr3 hnew3;obtain⟨A3,k3,rfl⟩:=Qg hown3;have f1:=HG4.o.ni.O.below hbel3 (by omega);have g3:=f1.cell 0;have g4:=f1.frozen 0;simp only[Wab,Waa] at g3;have HG6:=Hm (HG4.o.more rfl hown3 hbel3);clear f1 hown3 hbel3 hgr3 hnew3)
      have hq:=HG6.o;obtain⟨m1b,m2b,m3b,m4b,m5b,m6b⟩:=hq.ni.cells;have z0b:=hq.ni.O.lt;have z1b:=hq.ni.P.lt;have z2b:=hq.ni.D.lt;have q0b:=hq.box.cell 0;have q1b:=hq.box.cell 1;simp only[Wab,Waa,Wae] at q0b q1b;clear hq g3 g4;clear m1 m2 m3 m4 m5 m6 z0 z1 z2 q0 q1;generalize (w2.setCell ⟨w.heap.size+1,0,none⟩ (.slice A3 (s2.out.length+1) k3))=W at *;go_wp2_with (go_at_call 157;refine (Xz (out:=(s2.out++[(⟨s2.keep,0,[]⟩:PT)])) (base:=w.heap.size+1+3) (bp:=w.heap.size+1+1) (bo:=w.heap.size+1) (bd:=w.heap.size+1+1+1) (by omega) (Qar HG6.o) (by omega) HG6.o.ni.P HG6.o.ni.O HG6.o.ni.D HG6.o.ni.own HL4.o).mono ?_;rintro e w5 ⟨rfl,v5,f1,f2,f3,f4,f5⟩;obtain⟨A5,k5,rfl⟩:=Qg f2;generalize hN5:((s2.out++[(⟨s2.keep,0,[]⟩:PT)])++Qm s2.put s2.drop).length=N5 at *;have HN5:=Hm hN5;clear hN5;have g1:=f1.cell 0;simp only[Wab,Waa] at g1;have HF2:=Hm f2;have HF5:=Hm f5;clear f1 f2 f3 f4 f5)
      go_ret
      exact⟨⟨⟨_,rfl,by rw[HFI.o,HN5.o];exact Sl.of_own HF2.o⟩,XT HG6.o.bel HG6.o.ni HF5.o⟩,J9 ((Frs.of_own HF2.o).mono (by omega))⟩
     ·have HFI:Hd (gather g=s2.out++Qm s2.put s2.drop):=⟨by rw[HALL.o];unfold GS.fin QB;rw[if_neg hk3];simp⟩;have HL4:Hd (s2.out.length≤1099511627776):=⟨by have:=HL4.o;omega⟩;go_wp2_with (go_at_call 157;refine (Xz (out:=s2.out) (base:=w.heap.size+1+3) (bp:=w.heap.size+1+1) (bo:=w.heap.size+1) (bd:=w.heap.size+1+1+1) (by omega) (Qar HG4.o) (by omega) HG4.o.ni.P HG4.o.ni.O HG4.o.ni.D HG4.o.ni.own HL4.o).mono ?_;rintro e w5 ⟨rfl,v5,f1,f2,f3,f4,f5⟩;obtain⟨A5,k5,rfl⟩:=Qg f2;generalize hN5:(s2.out++Qm s2.put s2.drop).length=N5 at *;have HN5:=Hm hN5;clear hN5;have g1:=f1.cell 0;simp only[Wab,Waa] at g1;have HF2:=Hm f2;have HF5:=Hm f5;clear f1 f2 f3 f4 f5)
      go_ret
      exact⟨⟨⟨_,rfl,by rw[HFI.o,HN5.o];exact Sl.of_own HF2.o⟩,XT HG4.o.bel HG4.o.ni HF5.o⟩,J9 ((Frs.of_own HF2.o).mono (by omega))⟩
theorem Qh1 {g:SS}{vp vd:Value}{N:Nat}{w:World}(hp:Sl w 1 vp (N+1) (strs g.P))(hd:Sl w 1 vd N (bools g.D))(hN:N≤68719476736)(hl:plg g≤1099511627776) :
  Calls prog 129 #[.agg #[vp,vd]] w (JV (gather g) w):=(Qc7 hp hd hN hl).mono fun _ _ h=>h.1
end
theorem J4 (l:List PT):plg (spread l)=Qc l:=by
 suffices hs:∀ S:SS,plg (l.foldl SS.step S)=plg S+Qc l by
  have:=hs .zero
  simpa [spread,plg,SS.P,SS.zero] using this
 have ht:∀ (x:Bool) (m:Nat) (S:SS),plg (SS.take x m S)=plg S:=by
  intro x m S;unfold plg;rw[SS.take_P];simp
 induction l with
 | nil=>intro S;simp[Qc]
 | cons p l ih =>
  intro S;rw[List.foldl_cons,ih,Qc];unfold SS.step;rw[ht,ht];unfold plg SS.P;simp;omega
end Go.Proofs.YtdgdajnbkfmijaaGreatDoor
