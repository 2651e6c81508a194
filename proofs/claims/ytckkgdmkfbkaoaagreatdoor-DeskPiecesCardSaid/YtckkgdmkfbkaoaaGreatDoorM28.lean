/- Texts of the proof. -/
import Derived.Test.YtckkgdmkfbkaoaaGreatDoorM27
import Derived.RegionTactic
import Derived.ChangeAlike
namespace Go.Proofs.YtckkgdmkfbkaoaaGreatDoor
open Go.Proofs.Tryz
set_option maxRecDepth 100000
set_option maxHeartbeats 32000000
set_option linter.all false
open Go.RowKit
structure NI (w:World)(H:Nat)(v:Value)(s:NS):Prop where
 O:Blk w H 115 #[v]
 P:Blk w (H+1) 9 #[.string ⟨s.put.toArray⟩]
 D:Blk w (H+1+1) 3 #[.int .i64 s.drop]
 own:w.ownsRow (H+3) 117 3 v s.out.length (opv s.out)
section
variable {w w':World}{H:Nat}{v:Value}{s:NS}
theorem NI.alloc (h:NI w H v s)(o:Obj):NI (w.alloc o) H v s:=⟨h.O.alloc o,h.P.alloc o,h.D.alloc o,h.own.alloc o⟩
theorem NI.drew (h:NI w H v s):NI w.drew H v s:=⟨h.O,h.P,h.D,h.own⟩
theorem NI.setP (h:NI w H v s)(b:U.Bs):NI (w.setCell ⟨H+1,0,none⟩ (.string ⟨b.toArray⟩)) H v ⟨s.out,b,s.drop⟩ :=
 ⟨h.O.far (p:=⟨H+1,0,none⟩) (by simp) _,h.P.put1,h.D.far (p:=⟨H+1,0,none⟩) (by simp) _,ownsRow_setCell_other h.own (fun e=>by have:=(h.own.lt _ e).1;simp at this) _⟩
theorem NI.setD (h:NI w H v s)(d:Int):NI (w.setCell ⟨H+1+1,0,none⟩ (.int .i64 d)) H v ⟨s.out,s.put,d⟩ :=
 ⟨h.O.far (p:=⟨H+1+1,0,none⟩) (by simp;omega) _,h.P.far (p:=⟨H+1+1,0,none⟩) (by simp) _,h.D.put1,ownsRow_setCell_other h.own (fun e=>by have:=(h.own.lt _ e).1;simp at this;omega) _⟩
theorem NI.cells (h:NI w H v s):w.cell? ⟨H,0,none⟩=some v∧w.cell? ⟨H+1,0,none⟩=some (.string ⟨s.put.toArray⟩)∧w.cell? ⟨H+1+1,0,none⟩=some (.int .i64 s.drop)∧w.frozen? ⟨H,0,none⟩=false∧w.frozen? ⟨H+1,0,none⟩=false∧w.frozen? ⟨H+1+1,0,none⟩=false:=by
 have co:=h.O.cell 0;have cp:=h.P.cell 0;have cd:=h.D.cell 0;simp only[Wab,Waa] at co cp cd
 exact⟨co,cp,cd,h.O.frozen 0,h.P.frozen 0,h.D.frozen 0⟩
theorem NI.new (w:World):NI (((w.alloc (.cells #[.slice none 0 0] 115)).alloc (.cells #[.string ⟨#[]⟩] 9)).alloc (.cells #[.int .i64 0] 3)) w.heap.size (.slice none 0 0) .zero:=by
 refine⟨((Blk.new _ _ _).alloc _).alloc _,?_,?_,World.ownsRow_nil _ _ _ _⟩
 ·have:=(Blk.new (w.alloc (.cells #[.slice none 0 0] 115)) 9 #[.string ⟨#[]⟩]).alloc (.cells #[.int .i64 0] 3)
  rwa [Waq] at this
 ·have:=Blk.new ((w.alloc (.cells #[.slice none 0 0] 115)).alloc (.cells #[.string ⟨#[]⟩] 9)) 3 #[.int .i64 0]
  rwa [Waq,Waq] at this
end
theorem Zh {w:World}{o:Obj}{n:Nat}(h:n≤w.heap.size+1):n≤(w.alloc o).heap.size:=by rw[Waq];exact h
theorem Qca {H n:Nat}{v:Value}(h:∀ b,v.ownBlock=some b→H+3≤b∧b<n)(hz:H<n∧H+1<n∧H+1+1<n):¬ FlS (H+1) H (H+1+1) v n:=by
 rintro (e | e | e | e)
 ·omega
 ·omega
 ·omega
 ·have:=h _ e;omega
theorem Qcb {w1 w2:World}{H:Nat}{v2 v3:Value}{L:List PT}{k:Int}{N:Nat}(hN:L.length=N)(f1:Blk w1 H 115 #[v2])(f3:Blk w1 (H+1) 9 #[.string ⟨#[]⟩])(f4:Blk w1 (H+1+1) 3 #[.int .i64 0])
  (ho:w2.ownsRow (H+3) 117 3 v3 (N+1) (opv L++(#[Value.int .i64 k,.int .i64 0,.string ⟨#[]⟩]:Array Value).toList)) (hb:Below (H+3) w1 w2) :
  NI (w2.setCell ⟨H,0,none⟩ v3) H v3 ⟨L++[⟨k,0,[]⟩],[],0⟩:=by
 subst hN;refine⟨(f1.below hb (by omega)).put1,(f3.below hb (by omega)).far (p:=⟨H,0,none⟩) (by simp) _,(f4.below hb (by omega)).far (p:=⟨H,0,none⟩) (by simp;omega) _,?_⟩
 have:=ownsRow_setCell_other ho (a:=⟨H,0,none⟩) (fun e=>by have:=(ho.lt _ e).1;simp at this;omega) v3
 rw[Yo,YV,Wad];exact this
theorem Qcc {w wr w1 w2:World}{v v3:Value}{o:Obj}(hb:Below w.heap.size w wr)(h5:Only (FlS (w.heap.size+1) w.heap.size (w.heap.size+1+1) v) (wr.alloc o) w1)(hz:w.heap.size<wr.heap.size)
  (hv:∀ b,v.ownBlock=some b→w.heap.size+3≤b∧b<wr.heap.size) (h3:Below (w.heap.size+3) w1 w2):Below w.heap.size w (w2.setCell ⟨w.heap.size,0,none⟩ v3):=by
 have h6:Below w.heap.size (wr.alloc o) w1:=h5.below (by simp;omega) (fun k hk=>by
  rintro (e | e | e | e)
  ·omega
  ·omega
  ·omega
  ·have:=hv _ e;omega)
 exact (((Qb hb o).trans h6).trans (h3.mono (by omega))).setCell (Wak _) _
theorem Qmy (l:List PT)(q:PT)(k:Int):(opv (l++[q])).set (l.length*3) (.int .i64 k)=opv (l++[⟨k,q.drop,q.put⟩]):=by
 rw[Yo,Yo,YV,YV,List.set_append_right _ _ (by rw[Zw];omega),Zw,Nat.sub_self]
 rfl
theorem NI.stored {w:World}{H g m cap:Nat}{l:List PT}{q:PT}{k:Int}{b:U.Bs}{d:Int}(h:NI w H (.slice (some ⟨g,0,none⟩) (l.length+1) cap) ⟨l++[q],b,d⟩)(hg:H+3≤g)(hm:m=l.length*3) :
  NI (w.setCell ⟨g,m,none⟩ (.int .i64 k)) H (.slice (some ⟨g,0,none⟩) (l.length+1) cap) ⟨l++[⟨k,q.drop,q.put⟩],b,d⟩:=by
 subst hm;obtain⟨h1,h2,h3,h4⟩:=h;refine⟨h1.far (p:=⟨g,_,none⟩) (by simp;omega) _,h2.far (p:=⟨g,_,none⟩) (by simp;omega) _,h3.far (p:=⟨g,_,none⟩) (by simp;omega) _,?_⟩;simp only[Wad,Wan,List.length_nil,Nat.zero_add] at h4 ⊢;rw[← Qmy];exact (h4.stored _ _).1
def Qfm (l:List PT)(w:World)(e:Ending)(w':World):Prop:=(∃ v,e=.returned v∧Sl w' 3 v l.length (opv l))∧Below w.heap.size w w'
section
attribute [local go_sem] Qz YY
theorem Qcd {l:List PT}{v:Value}{n:Nat}{w:World}(hsl:Sl w 3 v n (opv l))(ha:∀ p∈l,p.arg)(hw:was l≤4611686018427387903)(hp:Qd l≤1099511627776)(hn:n≤68719476736) :
  Calls prog 275 #[v] w (fun e w'=>Qfm (norm l) w e w'∧FrE1 w.heap.size e):=by
 have hln:l.length=n:=by have:=hsl.len;rw[Zw] at this;omega
 have HSL:=Hm hsl;have HA:=Hm ha;have HBD:=Hm (Qpz ha);obtain⟨A,c,rfl,-⟩:=hsl;clear ha;go_enter func275,ntmps275
 go_wp2_with fail
 go_loopw [12] (fun i wr=>∃ (k:Nat) (v':Value),k≤n∧i=.int .i64 k∧NI wr w.heap.size v' (Qq .zero (l.take k))∧Below w.heap.size w wr) (fun i _=>n-(intOf i).toNat)
 case atStart=>exact⟨0,_,by omega,rfl,NI.new w,(by repeat (first | exact Wac _ _ | exact Qe (by assumption) | apply Qe | apply Qo | apply Qb | assumption))⟩
 case round =>
  obtain⟨k,v',hk,rfl,hni,hbel⟩:=hrel;have HB:=Hm hbel;have hb0:=hbel.size;obtain⟨bd1,bd2,bd3,bd4⟩:=HBD.o k;obtain⟨A',k',rfl⟩:=Qm hni.own
  by_cases hkn:k<n
  ·have HS:=Hm (Qp0 (l:=l) (k:=k) (by omega));obtain⟨b,o,c',hv,hlt,c0,c1,c2⟩:=(HSL.o.below hbel).part hkn (by omega)
   cases hv
   have harg:=HA.o _ (Wau (h:=(by omega:k<l.length)))
   have hpl:l[k].put.length≤1099511627776:=by
    have h1:=Qaf l (k+1);rw[Wag (by omega),YA,Qd] at h1;omega
   have hwl:l[k].drop≤4611686018427387903:=by
    have h1:=Qag HA.o (k+1);have h2:=ZJ (l:=l.take k) (fun p hp=>HA.o p (List.mem_of_mem_take hp));obtain⟨_,h3,h4⟩:=harg;rw[Wag (by omega),Yd,was,was] at h1;omega
   have HWO:Hd (was (Qq .zero (l.take k)).out≤was l∧∀ p∈(Qq .zero (l.take k)).out,p.arg):=⟨by
    obtain⟨a1,a2,_⟩:=Qgx (l:=l.take k) (fun p hp=>HA.o p (List.mem_of_mem_take hp)) .zero NOk.zero;have a3:=Qag HA.o k;have a4:=a1.d;have a5:was NS.zero.out=0:=rfl;have a6:NS.zero.drop=0:=rfl
    exact⟨by omega,a1.a⟩⟩
   generalize Qq .zero (l.take k)=s at *
   have hkl2:l[k].keep≤4611686018427387903:=by
    have h1:=Qag HA.o (k+1);have h2:=ZJ (l:=l.take k) (fun p hp=>HA.o p (List.mem_of_mem_take hp));obtain⟨_,h3,h4⟩:=harg;rw[Wag (by omega),Yd,was,was] at h1;omega
   have HMK:=Hm hkl2;clear hkl2;generalize l[k]=p at *;have HNI:=Hm hni;obtain⟨m1,m2,m3,m4,m5,m6⟩:=hni.cells;have hz0:=hni.O.lt;have hz1:=hni.P.lt;have hz2:=hni.D.lt;clear hbel hni;rcases harg.cases with ⟨q,hq,rfl⟩ | ⟨m,hm,rfl⟩ | ⟨m,hm,rfl⟩
   ·have hq':(q == [])=false:=by rw[Waf];exact hq
    have HR:Hd (s.step ⟨0,0,q⟩=⟨s.out,s.put++q,s.drop⟩):=⟨by simp[NS.step,hq]⟩;dsimp only at hpl hwl c0 c1 c2;clear harg;go_wp2_with fail
    exact⟨⟨k+1,_,by omega,by go_num,by rw[HS.o,HR.o];exact (HNI.o.setP _).alloc _,Qb (HB.o.setCell (by simp) _) _⟩,by simp only[intOf];omega⟩
   ·have HR:Hd (s.step ⟨0,m,[]⟩=⟨s.out,s.put,s.drop+m⟩):=⟨by simp[NS.step,hm]⟩;dsimp only at hpl hwl c0 c1 c2;clear harg;go_wp2_with fail
    exact⟨⟨k+1,_,by omega,by go_num,by rw[HS.o,HR.o];exact (HNI.o.setD _).alloc _,Qb (HB.o.setCell (by simp;omega) _) _⟩,by simp only[intOf];omega⟩
   ·by_cases e1:s.put=[]
    ·by_cases e2:0<s.drop
     ·have HC:Hd (s.put≠[]∨0<s.drop∨s.out=[]):=⟨.inr (.inl e2)⟩;have e1':(s.put == [])=true:=by rw[e1];rfl
      have HR:Hd (s.step ⟨m,0,[]⟩=⟨s.all++[⟨m,0,[]⟩],[],0⟩):=⟨by
       simp only[NS.step,ne_eq,not_true_eq_false,if_false,Int.lt_irrefl];rw[if_pos (by omega)];unfold NS.kept;rw[if_pos HC.o]⟩
      dsimp only at hpl hwl c0 c1 c2;have hlt2:∀ b,(Value.slice A' s.out.length k').ownBlock=some b→w.heap.size+3≤b∧b<wr.heap.size:=HNI.o.own.lt;have hfl:=Qah s.put s.drop;have HL1:Hd ((s.out++Qy s.put s.drop).length+1≤maxLen):=⟨by unfold maxLen;simp only[Wad];omega⟩;have HL2:Hd (((s.out++Qy s.put s.drop).length+1)*32≤140737488355328):=⟨by simp only[Wad];omega⟩;clear harg;go_wp2_with (first | (go_at_call 301;refine (Qab (base:=w.heap.size+3) (bp:=w.heap.size+1) (bo:=w.heap.size) (bd:=w.heap.size+1+1) (by omega) (Zh (by omega)) (by omega) (HNI.o.alloc _).P (HNI.o.alloc _).O (HNI.o.alloc _).D (HNI.o.alloc _).own (by omega)).mono ?_;rintro e w1 ⟨rfl,v2,f1,f2,f3,f4,f5⟩;obtain⟨A2,k2,rfl⟩:=Qm f2;generalize hN:(s.out++Qy s.put s.drop).length=N at *;have HN:=Hm hN;clear hN;have g1:=f1.cell 0;have g2:=f1.frozen 0;have hpb:=(Blk.new wr 117 #[.int .i64 m,.int .i64 0,.string ⟨#[]⟩]).only f5 (Qca hlt2 ⟨hz0,hz1,hz2⟩);have p0:=hpb.cell 0;have p1:=hpb.cell 1;have p2:=hpb.cell 2;simp only[Wab,Waa,Wae] at g1 p0 p1 p2;have hsz:=Wbf (Zh (o:=.cells #[.int .i64 m,.int .i64 0,.string ⟨#[]⟩] 117) (show w.heap.size+3≤wr.heap.size+1 by omega)) f5.size;have HF1:=Hm f1;have HF2:=Hm f2;have HF3:=Hm f3;have HF4:=Hm f4;have HF5:=Hm f5;clear f1 f2 f3 f4 f5 hpb) | (at_builtin;refine QE QK #[.int .i64 m,.int .i64 0,.string ⟨#[]⟩] HF2.o rfl rfl rfl rfl (by simp) rfl (QP rfl rfl rfl) HL1.o HL2.o hsz ?_;intro v3 w2 hown3 hbel3 hgr3 hnew3;obtain⟨A3,k3,rfl⟩:=Qm hown3;have f1:=HF1.o.below hbel3 (by omega);have g3:=f1.cell 0;have g4:=f1.frozen 0;simp only[Wab,Waa] at g3;have HO3:=Hm hown3;have HB3:=Hm hbel3;clear f1 hown3 hbel3 hgr3 hnew3))
      refine⟨⟨k+1,.slice A3 (N+1) k3,by omega,by go_num,?_,?_⟩,by simp only[intOf];omega⟩
      ·rw[HS.o,HR.o];exact Qcb HN.o HF1.o HF3.o HF4.o HO3.o HB3.o
      ·exact Qcc HB.o HF5.o hz0 hlt2 HB3.o
     ·by_cases e3:s.out=[]
      ·have HC:Hd (s.put≠[]∨0<s.drop∨s.out=[]):=⟨.inr (.inr e3)⟩;have e1':(s.put == [])=true:=by rw[e1];rfl
       have e3':((s.out.length:Int) == 0)=true:=by rw[e3];rfl
       have HR:Hd (s.step ⟨m,0,[]⟩=⟨s.all++[⟨m,0,[]⟩],[],0⟩):=⟨by
        simp only[NS.step,ne_eq,not_true_eq_false,if_false,Int.lt_irrefl];rw[if_pos (by omega)];unfold NS.kept;rw[if_pos HC.o]⟩
       dsimp only at hpl hwl c0 c1 c2;have hlt2:∀ b,(Value.slice A' s.out.length k').ownBlock=some b→w.heap.size+3≤b∧b<wr.heap.size:=HNI.o.own.lt;have hfl:=Qah s.put s.drop;have HL1:Hd ((s.out++Qy s.put s.drop).length+1≤maxLen):=⟨by unfold maxLen;simp only[Wad];omega⟩;have HL2:Hd (((s.out++Qy s.put s.drop).length+1)*32≤140737488355328):=⟨by simp only[Wad];omega⟩;clear harg;go_wp2_with (first | (go_at_call 301;refine (Qab (base:=w.heap.size+3) (bp:=w.heap.size+1) (bo:=w.heap.size) (bd:=w.heap.size+1+1) (by omega) (Zh (by omega)) (by omega) (HNI.o.alloc _).P (HNI.o.alloc _).O (HNI.o.alloc _).D (HNI.o.alloc _).own (by omega)).mono ?_;rintro e w1 ⟨rfl,v2,f1,f2,f3,f4,f5⟩;obtain⟨A2,k2,rfl⟩:=Qm f2;generalize hN:(s.out++Qy s.put s.drop).length=N at *;have HN:=Hm hN;clear hN;have g1:=f1.cell 0;have g2:=f1.frozen 0;have hpb:=(Blk.new wr 117 #[.int .i64 m,.int .i64 0,.string ⟨#[]⟩]).only f5 (Qca hlt2 ⟨hz0,hz1,hz2⟩);have p0:=hpb.cell 0;have p1:=hpb.cell 1;have p2:=hpb.cell 2;simp only[Wab,Waa,Wae] at g1 p0 p1 p2;have hsz:=Wbf (Zh (o:=.cells #[.int .i64 m,.int .i64 0,.string ⟨#[]⟩] 117) (show w.heap.size+3≤wr.heap.size+1 by omega)) f5.size;have HF1:=Hm f1;have HF2:=Hm f2;have HF3:=Hm f3;have HF4:=Hm f4;have HF5:=Hm f5;clear f1 f2 f3 f4 f5 hpb) | (at_builtin;refine QE QK #[.int .i64 m,.int .i64 0,.string ⟨#[]⟩] HF2.o rfl rfl rfl rfl (by simp) rfl (QP rfl rfl rfl) HL1.o HL2.o hsz ?_;intro v3 w2 hown3 hbel3 hgr3 hnew3;obtain⟨A3,k3,rfl⟩:=Qm hown3;have f1:=HF1.o.below hbel3 (by omega);have g3:=f1.cell 0;have g4:=f1.frozen 0;simp only[Wab,Waa] at g3;have HO3:=Hm hown3;have HB3:=Hm hbel3;clear f1 hown3 hbel3 hgr3 hnew3))
       refine⟨⟨k+1,.slice A3 (N+1) k3,by omega,by go_num,?_,?_⟩,by simp only[intOf];omega⟩
       ·rw[HS.o,HR.o];exact Qcb HN.o HF1.o HF3.o HF4.o HO3.o HB3.o
       ·exact Qcc HB.o HF5.o hz0 hlt2 HB3.o
      ·skip
       obtain⟨so,sp,sd⟩:=s;dsimp only at e1 e2 e3 bd1 bd2 bd3 bd4 m1 m2 m3;obtain rfl:sd=0:=by omega
       subst e1;rcases List.eq_nil_or_concat so with h0 | ⟨init,q,h0⟩
       ·exact absurd h0 e3
       rw[List.concat_eq_append] at h0;subst h0;obtain⟨g,cap,hv,hg1,hg2⟩:=HNI.o.own.form (by simp)
       have HR:Hd (NS.step ⟨init++[q],[],0⟩ ⟨m,0,[]⟩=⟨init++[⟨q.keep+m,q.drop,q.put⟩],[],0⟩):=⟨by
        simp only[NS.step,ne_eq,not_true_eq_false,if_false,Int.lt_irrefl];rw[if_pos (by omega)];unfold NS.kept;rw[if_neg (by simp)];dsimp only;rw[Xn]⟩
       have hqa:=HWO.o.2 q (by simp)
       have hqk:q.keep≤4611686018427387903:=by
        have h1:=HWO.o.1;have h2:=ZJ (l:=init) (fun p hp=>HWO.o.2 p (by simp[hp]));obtain⟨_,h3,h4⟩:=hqa;simp only[Yd,was] at h1;omega
       have hqk0:=hqa.2.1;have hmk:(m:Int)≤4611686018427387903:=HMK.o;simp only[Wad,Wan,List.length_nil,Nat.zero_add] at hv m1 bd1
       cases hv
       have hown:=HNI.o.own;simp only[Wad,Wan,List.length_nil,Nat.zero_add] at hown;have cq:=hown.cellAt (init.length*3) (by omega);have fq:=hown.frozenAt (init.length*3)
       have cq2:(opv (init++[q]))[init.length*3]?=some (.int .i64 q.keep):=by
        have:=(Qcp (l:=init++[q]) (k:=init.length) (by simp)).1
        rw[Nat.mul_comm] at this;simpa using this
       rw[cq2] at cq;have HNI2:Hd (NI wr w.heap.size (.slice (some ⟨g,0,none⟩) (init.length+1) k') ⟨init++[q],[],0⟩):=⟨by have:=HNI.o;simpa only [Wad,Wan,List.length_nil,Nat.zero_add] using this⟩;have e3':(((init.length:Int)+1) == 0)=false:=by rw[Waf];omega
       dsimp only at hpl hwl c0 c1 c2;clear harg hqa cq2 hown e3;go_wp2_with fail;go_region
       go_wp2_with fail
       exact⟨⟨k+1,_,by omega,by go_num,by rw[HS.o,HR.o];exact ((HNI2.o.stored hg1 rfl).alloc _).drew,Qe (Qb (HB.o.setCell (show w.heap.size≤g by omega) _) _)⟩,by simp only[intOf];omega⟩
    ·have HC:Hd (s.put≠[]∨0<s.drop∨s.out=[]):=⟨.inl e1⟩;have e1':(s.put == [])=false:=by rw[Waf];exact e1
     have HR:Hd (s.step ⟨m,0,[]⟩=⟨s.all++[⟨m,0,[]⟩],[],0⟩):=⟨by
      simp only[NS.step,ne_eq,not_true_eq_false,if_false,Int.lt_irrefl];rw[if_pos (by omega)];unfold NS.kept;rw[if_pos HC.o]⟩
     dsimp only at hpl hwl c0 c1 c2;have hlt2:∀ b,(Value.slice A' s.out.length k').ownBlock=some b→w.heap.size+3≤b∧b<wr.heap.size:=HNI.o.own.lt;have hfl:=Qah s.put s.drop;have HL1:Hd ((s.out++Qy s.put s.drop).length+1≤maxLen):=⟨by unfold maxLen;simp only[Wad];omega⟩;have HL2:Hd (((s.out++Qy s.put s.drop).length+1)*32≤140737488355328):=⟨by simp only[Wad];omega⟩;clear harg;go_wp2_with (first | (go_at_call 301;refine (Qab (base:=w.heap.size+3) (bp:=w.heap.size+1) (bo:=w.heap.size) (bd:=w.heap.size+1+1) (by omega) (Zh (by omega)) (by omega) (HNI.o.alloc _).P (HNI.o.alloc _).O (HNI.o.alloc _).D (HNI.o.alloc _).own (by omega)).mono ?_;rintro e w1 ⟨rfl,v2,f1,f2,f3,f4,f5⟩;obtain⟨A2,k2,rfl⟩:=Qm f2;generalize hN:(s.out++Qy s.put s.drop).length=N at *;have HN:=Hm hN;clear hN;have g1:=f1.cell 0;have g2:=f1.frozen 0;have hpb:=(Blk.new wr 117 #[.int .i64 m,.int .i64 0,.string ⟨#[]⟩]).only f5 (Qca hlt2 ⟨hz0,hz1,hz2⟩);have p0:=hpb.cell 0;have p1:=hpb.cell 1;have p2:=hpb.cell 2;simp only[Wab,Waa,Wae] at g1 p0 p1 p2;have hsz:=Wbf (Zh (o:=.cells #[.int .i64 m,.int .i64 0,.string ⟨#[]⟩] 117) (show w.heap.size+3≤wr.heap.size+1 by omega)) f5.size;have HF1:=Hm f1;have HF2:=Hm f2;have HF3:=Hm f3;have HF4:=Hm f4;have HF5:=Hm f5;clear f1 f2 f3 f4 f5 hpb) | (at_builtin;refine QE QK #[.int .i64 m,.int .i64 0,.string ⟨#[]⟩] HF2.o rfl rfl rfl rfl (by simp) rfl (QP rfl rfl rfl) HL1.o HL2.o hsz ?_;intro v3 w2 hown3 hbel3 hgr3 hnew3;obtain⟨A3,k3,rfl⟩:=Qm hown3;have f1:=HF1.o.below hbel3 (by omega);have g3:=f1.cell 0;have g4:=f1.frozen 0;simp only[Wab,Waa] at g3;have HO3:=Hm hown3;have HB3:=Hm hbel3;clear f1 hown3 hbel3 hgr3 hnew3))
     refine⟨⟨k+1,.slice A3 (N+1) k3,by omega,by go_num,?_,?_⟩,by simp only[intOf];omega⟩
     ·rw[HS.o,HR.o];exact Qcb HN.o HF1.o HF3.o HF4.o HO3.o HB3.o
     ·exact Qcc HB.o HF5.o hz0 hlt2 HB3.o
  ·skip
   obtain rfl:k=n:=by omega
   rw[show l.take k=l from by rw[← hln,Wbe]] at hni bd1 bd2 bd3 bd4;have HNM:Hd (norm l=(Qq .zero l).out++Qy (Qq .zero l).put (Qq .zero l).drop):=⟨rfl⟩;generalize Qq .zero l=s at *;have HNI:=Hm hni;have hz0:=hni.O.lt;have hz1:=hni.P.lt;have hz2:=hni.D.lt;have hlt2:∀ b,(Value.slice A' s.out.length k').ownBlock=some b→w.heap.size+3≤b∧b<wr.heap.size:=HNI.o.own.lt;clear hbel hni;go_wp2_with (go_at_call 301;refine (Qab (base:=w.heap.size+3) (bp:=w.heap.size+1) (bo:=w.heap.size) (bd:=w.heap.size+1+1) (by omega) (by omega) (by omega) HNI.o.P HNI.o.O HNI.o.D HNI.o.own (by omega)).mono ?_;rintro e w1 ⟨rfl,v2,f1,f2,f3,f4,f5⟩;obtain⟨A2,k2,rfl⟩:=Qm f2;generalize hN:(s.out++Qy s.put s.drop).length=N at *;have HN:=Hm hN;clear hN;have g1:=f1.cell 0;simp only[Wab,Waa] at g1;have HF2:=Hm f2;have HF5:=Hm f5;clear f1 f2 f3 f4 f5)
   go_ret
   refine⟨⟨⟨_,rfl,?_⟩,HB.o.trans (HF5.o.below (by omega) (fun k hk=>by
    rintro (e | e | e | e)
    ·omega
    ·omega
    ·omega
    ·have:=hlt2 _ e;omega))⟩,frE1 ((Frs.of_own HF2.o).mono (by omega))⟩
   rw[HNM.o,HN.o];exact Sl.of_own HF2.o
theorem Qfn {l:List PT}{v:Value}{n:Nat}{w:World}(hsl:Sl w 3 v n (opv l))(ha:∀ p∈l,p.arg)(hw:was l≤4611686018427387903)(hp:Qd l≤1099511627776)(hn:n≤68719476736) :
  Calls prog 275 #[v] w (Qfm (norm l) w):=(Qcd hsl ha hw hp hn).mono fun _ _ h=>h.1
end
end Go.Proofs.YtckkgdmkfbkaoaaGreatDoor
