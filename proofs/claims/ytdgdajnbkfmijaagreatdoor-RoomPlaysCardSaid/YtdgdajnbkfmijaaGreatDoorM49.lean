/- Texts of the proof. -/
import Derived.Test.YtdgdajnbkfmijaaGreatDoorM48
import Derived.StillTailTactics
namespace Go.Proofs.YtdgdajnbkfmijaaGreatDoor
open Go.Proofs.Tryz
set_option maxRecDepth 100000
set_option maxHeartbeats 32000000
section
open Go.RowKit Go.Sort
structure CmR (w:World)(F:Nat→Prop)(r:RRP)(R:RM)(p:PK)(v:Value)(C:CV)(c:RCP)(N:Int):Prop where
 rm:RRmR w F r R.z
 op:OpO F w v p.en.op
 ok:RMok N R
 n:N≤1000000
 tk:R.srv.tk≤900000000
 lost:-1000000≤R.lost∧R.lost≤800000000
 hC:R.cl[p.k]?=some C
 hc:r.cs[p.k]?=some c
 pk:PKok R.srv C p
theorem CmR.below {w w':World}{F:Nat→Prop}{r:RRP}{R:RM}{p:PK}{v:Value}{C:CV}{c:RCP}{N:Int}(h:CmR w F r R p v C c N)(hb:Below w.heap.size w w'):CmR w' F r R p v C c N :=
 ⟨h.rm.below hb,h.op.below hb (Grow.refl _ _),h.ok,h.n,h.tk,h.lost,h.hC,h.hc,h.pk⟩
theorem CmR.k6 {w:World}{F:Nat→Prop}{r:RRP}{R:RM}{p:PK}{v:Value}{C:CV}{c:RCP}{N:Int}(h:CmR w F r R p v C c N)(hn:R.cl.length≤1000000):(Lit.int .i64 (p.k:Int)).wf=true:=by
 have:=(Wai.1 h.hC).1
 simp[Lit.wf,IntKind.min,IntKind.max,IntKind.signed,IntKind.bits]
 omega
structure RRmX (F0:Nat→Prop)(r0:RRP)(w0:World)(B:Nat)(T:TypeId)(cs:Array Value)(R:RM)(w:World):Prop where
 ex:∃ r F,(r.a=r0.a∧r.s.a=r0.s.a)∧RRmR w F r R∧(∀ R2 w3,Qp F r R2 w w3→Qp F0 r0 R2 w0 w3)∧¬ r.F B
 box:Blk w B T cs
section
variable {F0:Nat→Prop}{r0:RRP}{w0 w w':World}{B:Nat}{T:TypeId}{cs:Array Value}{R R':RM}
theorem RRmX.fin (h:RRmX F0 r0 w0 B T cs R w):Qp F0 r0 R w0 w:=by
 obtain⟨⟨r,F,h1,h2,h3,h4⟩,h5⟩:=h;exact h3 R w (Qp.of_below h2 (Wac _ _))
theorem RRmX.start (h:RRmR w0 F0 r0 R)(hb:Below w0.heap.size w0 w)(hbx:Blk w B T cs)(hB:w0.heap.size≤B):RRmX F0 r0 w0 B T cs R w :=
 ⟨⟨r0,F0,⟨rfl,rfl⟩,h.below hb,fun _ _ k=>Qp.from_below h hb k,fun e=>by have:=h.lt _ e;omega⟩,hbx⟩
theorem RRmX.step {r:RRP}{F:Nat→Prop}(h1:r.a=r0.a∧r.s.a=r0.s.a)(h2:RRmR w F r R)(h3:∀ R2 w3,Qp F r R2 w w3→Qp F0 r0 R2 w0 w3)(h4:¬ r.F B)(h5:Blk w B T cs)(hs:Qp F r R' w w'):RRmX F0 r0 w0 B T cs R' w':=by
 obtain⟨r1,F1,a1,a2,a3,a4,a5,a6,a7,a8⟩:=Qp.next' h2 hs
 exact⟨⟨r1,F1,⟨a1.1.trans h1.1,a1.2.trans h1.2⟩,a3,fun R2 w3 k=>h3 _ _ (a8 _ _ k),fun e=>(a7 _ e).elim h4 (fun e=>by have:=h5.lt;omega)⟩,h5.only a4 h4⟩
theorem RRmX.call (h:RRmX F0 r0 w0 B T cs R w){n:Nat}{args:Array Value}{ev:Value}(hc:∀ r F,r.a=r0.a∧r.s.a=r0.s.a→RRmR w F r R→Calls prog n args w (fun e w'=>e=.returned ev∧Qp F r R' w w')) :
  Calls prog n args w (fun e w'=>e=.returned ev∧RRmX F0 r0 w0 B T cs R' w'):=by
 obtain⟨⟨r,F,h1,h2,h3,h4⟩,h5⟩:=h;refine (hc r F h1 h2).mono ?_;rintro e w' ⟨rfl,hs⟩
 exact⟨rfl,RRmX.step h1 h2 h3 h4 h5 hs⟩
end
theorem Qfw {k n q:Nat}{l:List EN}(h1:n≤q)(h2:q<l.length):(Qu k n (l.drop n)).take (q+1-n)=(Qu k n (l.drop n)).take (q-n)++[⟨3,k,(q:Int),0,l[q]⟩]:=by
 have hl:q-n<(l.drop n).length:=by rw[War];omega
 have e1:q+1-n=q-n+1:=by omega
 have e2:(n:Int)+((q-n:Nat):Int)=(q:Int):=by omega
 have e3:(l.drop n)[q-n]=l[q]:=by
  rw[List.getElem_drop]
  congr 1
  omega
 rw[e1,Qgl hl,e2,e3]
theorem Qfx {k n:Nat}{l:List EN}:(Qu k n (l.drop n)).take (l.length-n)=Qu k n (l.drop n) :=
 List.take_of_length_le (by rw[(Yf _ _ _).2,War];exact Wak _)
section
attribute [local go_sem] Qr
variable {F:Nat→Prop}{w:World}{r:RRP}{R:RM}{p:PK}{v:Value}{C:CV}{c:RCP}{N:Int}
theorem Qm4 (h:CmR w F r R p v C c N)(hk:p.kind=3) :
  Calls prog 39 #[.pointer (some ⟨r.a,0,none⟩),pkV p.z v] w fun e w'=>e=.returned (.tuple #[])∧Qp F r (R.comes p).z w w':=by
 have hpk:=(Wai.1 h.hc).1;obtain⟨b,o,cc,hv,hbb,c0⟩:=h.rm.vcs.one_at (k:=p.k) hpk (u:=.pointer (some ⟨c.a,0,none⟩)) (by unfold Zf;rw[Wav,h.hc];rfl);obtain⟨z0,z1,z2,z3⟩:=Qk h.rm.blk;rw[hv] at z1;have lt:=h.rm.blk.lt;obtain⟨A,ca,hvv,-⟩:=h.op.sl;have HL:=Hm h;have HR:=Hm (RM.z_told hk h.hC);rw[PK.z_no (by rw[hk];decide)];obtain⟨kind,k,rev,id,en⟩:=p;obtain⟨who,eid,op⟩:=en;dsimp only at hk hvv hpk c0 HR;subst hk hvv;have hck:=h.ok.cl _ _ h.hC
 have hf:rev=C.rev→∃ Z,Fit_ C ⟨who,eid,op⟩ Z:=fun e=>by
  have he:=h.pk.told rfl;dsimp only at he;rw[e,show ((C.rev:Nat):Int).toNat=C.rev from by omega] at he;obtain⟨Z,hZ,-⟩:=hck.fit h.ok.sv he
  exact⟨Z,hZ⟩
 have HT:=fun W (hb:Below w.heap.size w W)=>Hm (Qu4 (e:=⟨who,eid,op⟩) (v:=.slice A op.length ca) (rev:=rev) ((h.rm.below hb).cli k c C h.hc h.hC) hck.ok h.n (by have:=hck.rev;have:=h.ok.ln;omega) ((h.below hb).op) hf)
 clear h hv hck hf;unfold pkV;go_enter func39,ntmps39
 go_wp2_with fail;go_quiet (fail)
 go_wp2_with fail;refine ((HT _ (Qh nq (Qa (Wac _ _) _))).out).mono ?_;intro e w3 h3;have h4:=(HL.o.rm.below (Qh nq (Qa (Wac _ _) _))).client HL.o.hc HL.o.hC h3;obtain⟨rfl,h5⟩:=h4;have H3:=Hm h5;clear h3 h5;go_wp2_with fail
 (try simp only[Exit.inBlock,Exit.then])
 refine Waz (results_none rfl _ _ _) rfl ?_;rw[HR.o]
 exact⟨rfl,Qp.from_below HL.o.rm (Qh nq (Qa (Wac _ _) _)) H3.o⟩
theorem Qm5 (h:CmR w F r R p v C c N)(hk:p.kind=4) :
  Calls prog 39 #[.pointer (some ⟨r.a,0,none⟩),pkV p.z v] w fun e w'=>e=.returned (.tuple #[])∧Qp F r (R.comes p).z w w':=by
 have hpk:=(Wai.1 h.hc).1;obtain⟨b,o,cc,hv,hbb,c0⟩:=h.rm.vcs.one_at (k:=p.k) hpk (u:=.pointer (some ⟨c.a,0,none⟩)) (by unfold Zf;rw[Wav,h.hc];rfl);obtain⟨z0,z1,z2,z3⟩:=Qk h.rm.blk;rw[hv] at z1;have lt:=h.rm.blk.lt;obtain⟨A,ca,hvv,-⟩:=h.op.sl;have HL:=Hm h;have HR:=Hm (RM.z_refuse hk h.hC);have hz:p.z=⟨4,p.k,0,p.id,p.en⟩:=by unfold PK.z;rw[if_pos hk,hk]
 rw[hz];obtain⟨kind,k,rev,id,en⟩:=p;obtain⟨who,eid,op⟩:=en;dsimp only at hk hvv hpk c0 HR hz ⊢;subst hk hvv;have hck:=h.ok.cl _ _ h.hC;have HT:=fun W (hb:Below w.heap.size w W)=>Hm (Ql4 (id:=id) ((h.rm.below hb).cli k c C h.hc h.hC) hck.ok h.n)
 clear h hv hck hz;unfold pkV;go_enter func39,ntmps39
 go_wp2_with fail;go_quiet (fail)
 go_wp2_with fail;refine ((HT _ (Qh nq (Qa (Wac _ _) _))).out).mono ?_;intro e w3 h3;have h4:=(HL.o.rm.below (Qh nq (Qa (Wac _ _) _))).client HL.o.hc HL.o.hC h3;obtain⟨rfl,h5⟩:=h4;have H3:=Hm h5;clear h3 h5;go_wp2_with fail
 (try simp only[Exit.inBlock,Exit.then])
 refine Waz (results_none rfl _ _ _) rfl ?_;rw[HR.o]
 exact⟨rfl,Qp.from_below HL.o.rm (Qh nq (Qa (Wac _ _) _)) H3.o⟩
theorem Qm6 (h:CmR w F r R p v C c N)(hk:p.kind=2)(hcl:R.cl.length≤1000000) :
  Calls prog 39 #[.pointer (some ⟨r.a,0,none⟩),pkV p.z v] w fun e w'=>e=.returned (.tuple #[])∧Qp F r (R.comes p).z w w':=by
 have hpk:=(Wai.1 h.hc).1;obtain⟨b,o,cc,hv,hbb,c0⟩:=h.rm.vcs.one_at (k:=p.k) hpk (u:=.pointer (some ⟨c.a,0,none⟩)) (by unfold Zf;rw[Wav,h.hc];rfl);obtain⟨z0,z1,z2,z3⟩:=Qk h.rm.blk;rw[hv] at z1;have lt:=h.rm.blk.lt;obtain⟨A,ca,hvv,-⟩:=h.op.sl;have HL:=Hm h;have HK:=Hm (h.k6 hcl);have HR:=Hm (RM.z_look R p hk);rw[PK.z_no (by rw[hk];decide)];obtain⟨kind,k,rev,id,en⟩:=p;obtain⟨who,eid,op⟩:=en;dsimp only at hk hvv hpk c0 HK HR;subst hk hvv;have hrv:=h.pk.rv;dsimp only at hrv;obtain⟨n,rfl⟩:=Was hrv.1;obtain⟨R2,hR2⟩:∃ R2,R2=R.z:=⟨_,rfl⟩;obtain⟨NN,hNN⟩:∃ NN,NN=R2.srv.log.length:=⟨_,rfl⟩
 have HNN:Hd (n≤NN∧NN=R2.srv.log.length∧NN≤300):=⟨by
  refine⟨?_,hNN,?_⟩
  ·rw[hNN,hR2];have:R.z.srv=R.srv:=rfl;rw[this];omega
  ·rw[hNN,hR2];exact h.ok.ln⟩
 have HLO:Hd (-1000000≤R2.lost∧R2.lost≤800000000):=⟨by rw[hR2];exact h.lost⟩;have HR2:=Hm hR2;obtain⟨bx,hbxq⟩:∃ bx:Array Value,bx=#[.int .i64 2,.int .i64 (k:Int),.int .i64 (n:Int),.int .i64 id,.int .i64 who,.int .i64 eid,.slice A op.length ca]:=⟨_,rfl⟩;clear h hv hrv hNN hR2;unfold pkV;go_enter func39,ntmps39
 go_wp2_with fail;go_quiet (fail)
 obtain⟨w2,hw2⟩:∃ W,W=(w.alloc (.cells #[.int .i64 2,.int .i64 (k:Int),.int .i64 (n:Int),.int .i64 id,.int .i64 who,.int .i64 eid,.slice A op.length ca] 96)).drewN nq:=⟨_,rfl⟩;have HB2:Hd (Below w.heap.size w w2):=⟨by rw[hw2];exact Qh nq (Qa (Wac _ _) _)⟩;have HBX:Hd (Blk w2 w.heap.size 96 bx):=⟨by rw[hw2,hbxq];exact Blk.new w _ _⟩;have HQ:Hd (bx=#[.int .i64 2,.int .i64 (k:Int),.int .i64 (n:Int),.int .i64 id,.int .i64 who,.int .i64 eid,.slice A op.length ca]):=⟨hbxq⟩;rw[← hw2];have H2:Hd (RRmX F r w w.heap.size 96 bx R2 w2):=⟨by rw[HR2.o];exact RRmX.start HL.o.rm HB2.o HBX.o (Wak _)⟩;clear z0 z1 z2 z3 c0 hbb hw2 hbxq hpk lt;obtain⟨y0,y1,y2,y3,y4,y5,y6⟩:=Ym (by have:=H2.o.box;rw[HQ.o] at this;exact this);have yl:=H2.o.box.lt;go_wp2_with fail;clear y0 y1 y2 y3 y4 y5 y6 yl
 go_loopw [6] (fun i wr=>∃ q:Nat,n≤q∧q≤NN∧i=.int .i64 q∧RRmX F r w w.heap.size 96 bx (R2.sends ((Qu k n (R2.srv.log.drop n)).take (q-n))) wr) (fun i _=>NN-(intOf i).toNat)
 case atStart=>exact⟨n,Wak _,HNN.o.1,rfl,by rw[Nat.sub_self];exact H2.o⟩
 case round =>
  obtain⟨q,hnq,hqn,rfl,hX⟩:=hrel;have HX:=Hm hX;obtain⟨⟨r1,F1,ha,hR,hnx,hnB⟩,hbox⟩:=hX;have hsl:=RM.sends_srv R2 ((Qu k n (R2.srv.log.drop n)).take (q-n));obtain⟨x0,x1,x2,x3⟩:=Qk hR.blk;obtain⟨s0,s1,s2⟩:=Qy hR.srv.blk;obtain⟨Ae,ce,hve⟩:=Qg hR.srv.own;have hsl2:r1.s.L.length=NN:=by rw[hR.srv.len,hsl.1];exact HNN.o.2.1.symm
  have hso:=Sl.of_own hR.srv.own;rw[hve,hsl2] at s1;rw[hsl2,hve,hsl2] at hso;rw[ha.2] at x0 s1;rw[ha.1] at x0;have rl:r.a<wr.heap.size:=by rw[← ha.1];exact hR.blk.lt
  have sl:r.s.a<wr.heap.size:=by rw[← ha.2];exact hR.srv.blk.lt
  have HST:=Hm (Wao ha (Wao hR (Wao hnx (Wao hnB hbox))));have hbox':=hbox;rw[HQ.o] at hbox';obtain⟨y0,y1,y2,y3,y4,y5,y6⟩:=Ym hbox';have yl:=hbox.lt;have hN300:NN≤300:=HNN.o.2.2
  by_cases hq:q<NN
  ·have hql:q<r1.s.L.length:=by rw[hsl2];exact hq
   obtain⟨be,oe,ce',hv',hbe,e0,e1,e2⟩:=hso.entry hq hql
   cases hv'
   have hqlog:q<R2.srv.log.length:=by rw[← HNN.o.2.1];exact hq
   have hent:r1.s.L[q].1=R2.srv.log[q]:=by
    have h1:(r1.s.L.map Prod.fst)[q]'(by rw[Wbi];exact hql)=r1.s.L[q].1:=by rw[List.getElem_map]
    rw[← h1];have h2:=hR.srv.log;rw[hsl.1] at h2;simp only[h2]
   have hops:=hR.srv.ops _ (Wau hql);have HTM:=Hm (Qfw (k:=k) hnq hqlog);rw[← hent] at HTM;generalize r1.s.L[q]=en1 at *;obtain⟨⟨ew,ei,eo⟩,ev⟩:=en1;dsimp only at e0 e1 e2 hops HTM hent;obtain⟨Ax,cx,rfl,-⟩:=hops.sl;have hlo:=R2.sends_lost ((Qu k n (R2.srv.log.drop n)).take (q-n))
   have hlen:((Qu k n (R2.srv.log.drop n)).take (q-n)).length≤300:=by
    rw[Wbb,(Yf _ _ _).2,War]
    have:=HNN.o.2.1
    omega
   have hl2:=HLO.o
   have HSD:Hd (∀ W,Below wr.heap.size wr W→Calls prog 81 #[.pointer (some ⟨r.a,0,none⟩),.agg #[.int .i64 3,.int .i64 (k:Int),.int .i64 (q:Int),.int .i64 0,.int .i64 ew,.int .i64 ei,.slice Ax eo.length cx]] W fun e w'=>e=.returned (.tuple #[])∧RRmX F r w w.heap.size 96 bx (R2.sends ((Qu k n (R2.srv.log.drop n)).take (q+1-n))) w'):=⟨fun W hb=>by
    obtain⟨h1,h2,h3,h4,h5⟩:=HST.o;rw[← h1.1];refine (Jc (p:=⟨3,k,(q:Int),0,⟨ew,ei,eo⟩⟩) (v:=.slice Ax eo.length cx) (h2.below hb) (hops.below hb (Grow.refl _ _)) (by omega)).mono ?_;rintro e w' ⟨rfl,hs,-⟩;refine⟨rfl,?_⟩;rw[HTM.o,RM.sends_snoc];exact RRmX.step h1 (h2.below hb) (fun R3 w3 k=>h3 R3 w3 (Qp.from_below h2 hb k)) h4 (h5.below hb h5.lt) hs⟩
   clear hR hnx hnB hbox hbox' hso hve hsl hsl2 hops hent HTM HST hlo hlen hl2 ha HX x1 x2 x3 s0 s2 y0 y2 y3 y4 y5 y6 hql hqlog;go_wp2_with fail;go_still_tail 15,(by kernel_rfl)
   change wpList _ _ _ _ _ wr.drew;go_wp2_with fail;refine (HSD.o _ (Qe (Wac _ _))).mono ?_;rintro e w3 ⟨rfl,h3⟩;have H3:=Hm h3;clear h3 x0 s1 y1 e0 e1 e2;go_wp2_with fail
   exact⟨⟨q+1,by omega,by omega,by go_num,H3.o⟩,by simp only[intOf];omega⟩
  ·obtain rfl:q=NN:=by omega
   have HXT:Hd (RRmX F r w w.heap.size 96 bx (R2.tells k n) wr):=⟨by
    have h1:=HX.o;have h2:=HNN.o
    have e1:R2.tells k n=R2.sends (Qu k n (R2.srv.log.drop n)):=by
     unfold RM.tells;rw[if_pos ⟨by omega,by omega⟩,show ((n:Nat):Int).toNat=n from by omega]
    rw[e1,← Qfx,← h2.2.1];exact h1⟩
   clear hR hnx hnB hbox hbox' hso hve hsl hsl2 HST HX x1 x2 x3 s0 s2 ha y0 y2 y4 y5 y6;go_wp2_with fail;go_end0;rw[HR.o,← HR2.o]
   exact⟨rfl,HXT.o.fin⟩
theorem Qm7 (h:CmR w F r R p v C c N)(hk:p.kind=1)(hcl:R.cl.length≤1000000) :
  Calls prog 39 #[.pointer (some ⟨r.a,0,none⟩),pkV p.z v] w fun e w'=>e=.returned (.tuple #[])∧Qp F r (R.comes p).z w w':=by
 have hpk:=(Wai.1 h.hc).1;obtain⟨b,o,cc,hv,hbb,c0⟩:=h.rm.vcs.one_at (k:=p.k) hpk (u:=.pointer (some ⟨c.a,0,none⟩)) (by unfold Zf;rw[Wav,h.hc];rfl);obtain⟨z0,z1,z2,z3⟩:=Qk h.rm.blk;rw[hv] at z1;have lt:=h.rm.blk.lt;obtain⟨A,ca,hvv,-⟩:=h.op.sl;have HL:=Hm h;have HK:=Hm (h.k6 hcl);obtain⟨t,ht⟩:∃ t,t=R.srv.take (p.k:Int) p.id p.rev p.en.op:=⟨_,rfl⟩;have HR:=Hm (RM.z_ask R p hk t ht);rw[PK.z_no (by rw[hk];decide)];obtain⟨kind,k,rev,id,en⟩:=p;obtain⟨who,eid,op⟩:=en;dsimp only at hk hvv hpk c0 HK HR;subst hk hvv;have hrv:=h.pk.rv;dsimp only at hrv;obtain⟨n,rfl⟩:=Was hrv.1;dsimp only at ht
 have HSZ:Hd (Qc op≤100000∧op.length≤200000):=⟨by
  obtain⟨-,-,g1,g2,g3,-⟩:=h.pk.ask rfl
  have:=ZW (fun p hp=>(g1 p hp).1)
  dsimp only at this g2 g3 ⊢;omega⟩
 obtain⟨R2,hR2⟩:∃ R2:RM,R2=⟨t.2,R.z.cl,R.z.way,R.z.lost⟩:=⟨_,rfl⟩;obtain⟨NN,hNN⟩:∃ NN,NN=R2.srv.log.length:=⟨_,rfl⟩
 have HNN:Hd (n≤NN∧NN=R2.srv.log.length∧NN≤300):=⟨by
  have h1:=(h.ok.served h.hC h.pk rfl).ln;dsimp only at h1;have h2:=R.srv.take_spec (k:Int) id (n:Int) op;have e:R2.srv=t.2:=by rw[hR2]
  rw[← ht] at h1 h2;refine⟨?_,hNN,by rw[hNN,e];exact h1⟩;rw[hNN,e];rcases h2 with ⟨h3,-⟩ | ⟨-,-,-,-,-,h3,-⟩
  ·rw[h3];omega
  ·rw[h3,Wad];omega⟩
 have HLO:Hd (-1000000≤R2.lost∧R2.lost≤800000000):=⟨by rw[hR2];exact h.lost⟩;have HR2:=Hm hR2;obtain⟨bx,hbxq⟩:∃ bx:Array Value,bx=#[.int .i64 1,.int .i64 (k:Int),.int .i64 (n:Int),.int .i64 id,.int .i64 who,.int .i64 eid,.slice A op.length ca]:=⟨_,rfl⟩
 have HT:Hd (∀ W,Below w.heap.size w W→Blk W w.heap.size 96 bx→Calls prog 13 #[.pointer (some ⟨r.s.a,0,none⟩),.int .i64 (k:Int),.int .i64 id,.int .i64 (n:Int),.slice A op.length ca] W fun e w2=>e=.returned (.int .i64 t.1)∧RRmX F r w w.heap.size 96 bx R2 w2):=⟨by
  intro W hb hx;refine (Qum (who:=(k:Int)) (id:=id) (rev:=(n:Int)) (op:=op) (v:=.slice A op.length ca) (h.below hb).rm.srv (by have:R.z.srv=R.srv:=rfl;rw[this];have:=h.ok.ln;omega) (by have:R.z.srv=R.srv:=rfl;rw[this];have:=h.tk;omega) HK.o (h.below hb).op HSZ.o.1 HSZ.o.2).mono ?_;intro e w2 h2;have e0:R.z.srv=R.srv:=rfl;rw[e0,← ht] at h2;obtain⟨rfl,hs2⟩:=(h.below hb).rm.served h2;refine⟨rfl,?_⟩;rw[hR2];exact RRmX.step ⟨rfl,rfl⟩ (h.below hb).rm (fun R3 w3 q=>Qp.from_below h.rm hb q) (fun e=>by have:=h.rm.lt _ e;omega) hx hs2⟩
 clear h hv hrv hNN hR2 ht;unfold pkV;go_enter func39,ntmps39
 go_wp2_with fail;go_quiet (fail)
 obtain⟨w1,hw1⟩:∃ W,W=(w.alloc (.cells #[.int .i64 1,.int .i64 (k:Int),.int .i64 (n:Int),.int .i64 id,.int .i64 who,.int .i64 eid,.slice A op.length ca] 96)).drewN nq:=⟨_,rfl⟩;have HB1:Hd (Below w.heap.size w w1):=⟨by rw[hw1];exact Qh nq (Qa (Wac _ _) _)⟩;have HBX:Hd (Blk w1 w.heap.size 96 bx):=⟨by rw[hw1,hbxq];exact Blk.new w _ _⟩;have HQ:Hd (bx=#[.int .i64 1,.int .i64 (k:Int),.int .i64 (n:Int),.int .i64 id,.int .i64 who,.int .i64 eid,.slice A op.length ca]):=⟨hbxq⟩;rw[← hw1];clear z0 z1 z2 z3 c0 hbb hw1 hbxq hpk lt;obtain⟨z0,-,-,-⟩:=Qk (HL.o.rm.below HB1.o).blk;have rl0:r.a<w1.heap.size:=(HL.o.rm.below HB1.o).blk.lt;obtain⟨y0,y1,y2,y3,y4,y5,y6⟩:=Ym (by have:=HBX.o;rw[HQ.o] at this;exact this);have yl:=HBX.o.lt;go_wp2_with fail;go_still_tail 13,(by kernel_rfl)
 change wpList _ _ _ _ _ w1.drew;go_wp2_with fail;refine (HT.o _ (Qe HB1.o) HBX.o.drew_').mono ?_;rintro e w2 ⟨rfl,h2⟩;have H2:=Hm h2;clear h2 z0 rl0 y0 y1 y2 y3 y4 y5 y6 yl HT;obtain⟨y0,y1,y2,y3,y4,y5,y6⟩:=Ym (by have:=H2.o.box;rw[HQ.o] at this;exact this);have yl:=H2.o.box.lt;go_wp2_with fail;clear y0 y1 y2 y3 y4 y5 y6 yl
 go_loopw [6] (fun i wr=>∃ q:Nat,n≤q∧q≤NN∧i=.int .i64 q∧RRmX F r w w.heap.size 96 bx (R2.sends ((Qu k n (R2.srv.log.drop n)).take (q-n))) wr) (fun i _=>NN-(intOf i).toNat)
 case atStart=>exact⟨n,Wak _,HNN.o.1,rfl,by rw[Nat.sub_self];exact H2.o⟩
 case round =>
  obtain⟨q,hnq,hqn,rfl,hX⟩:=hrel;have HX:=Hm hX;obtain⟨⟨r1,F1,ha,hR,hnx,hnB⟩,hbox⟩:=hX;have hsl:=RM.sends_srv R2 ((Qu k n (R2.srv.log.drop n)).take (q-n));obtain⟨x0,x1,x2,x3⟩:=Qk hR.blk;obtain⟨s0,s1,s2⟩:=Qy hR.srv.blk;obtain⟨Ae,ce,hve⟩:=Qg hR.srv.own;have hsl2:r1.s.L.length=NN:=by rw[hR.srv.len,hsl.1];exact HNN.o.2.1.symm
  have hso:=Sl.of_own hR.srv.own;rw[hve,hsl2] at s1;rw[hsl2,hve,hsl2] at hso;rw[ha.2] at x0 s1;rw[ha.1] at x0;have rl:r.a<wr.heap.size:=by rw[← ha.1];exact hR.blk.lt
  have sl:r.s.a<wr.heap.size:=by rw[← ha.2];exact hR.srv.blk.lt
  have HST:=Hm (Wao ha (Wao hR (Wao hnx (Wao hnB hbox))));have hbox':=hbox;rw[HQ.o] at hbox';obtain⟨y0,y1,y2,y3,y4,y5,y6⟩:=Ym hbox';have yl:=hbox.lt;have hN300:NN≤300:=HNN.o.2.2
  by_cases hq:q<NN
  ·have hql:q<r1.s.L.length:=by rw[hsl2];exact hq
   obtain⟨be,oe,ce',hv',hbe,e0,e1,e2⟩:=hso.entry hq hql
   cases hv'
   have hqlog:q<R2.srv.log.length:=by rw[← HNN.o.2.1];exact hq
   have hent:r1.s.L[q].1=R2.srv.log[q]:=by
    have h1:(r1.s.L.map Prod.fst)[q]'(by rw[Wbi];exact hql)=r1.s.L[q].1:=by rw[List.getElem_map]
    rw[← h1];have h2:=hR.srv.log;rw[hsl.1] at h2;simp only[h2]
   have hops:=hR.srv.ops _ (Wau hql);have HTM:=Hm (Qfw (k:=k) hnq hqlog);rw[← hent] at HTM;generalize r1.s.L[q]=en1 at *;obtain⟨⟨ew,ei,eo⟩,ev⟩:=en1;dsimp only at e0 e1 e2 hops HTM hent;obtain⟨Ax,cx,rfl,-⟩:=hops.sl;have hlo:=R2.sends_lost ((Qu k n (R2.srv.log.drop n)).take (q-n))
   have hlen:((Qu k n (R2.srv.log.drop n)).take (q-n)).length≤300:=by
    rw[Wbb,(Yf _ _ _).2,War]
    have:=HNN.o.2.1
    omega
   have hl2:=HLO.o
   have HSD:Hd (∀ W,Below wr.heap.size wr W→Calls prog 81 #[.pointer (some ⟨r.a,0,none⟩),.agg #[.int .i64 3,.int .i64 (k:Int),.int .i64 (q:Int),.int .i64 0,.int .i64 ew,.int .i64 ei,.slice Ax eo.length cx]] W fun e w'=>e=.returned (.tuple #[])∧RRmX F r w w.heap.size 96 bx (R2.sends ((Qu k n (R2.srv.log.drop n)).take (q+1-n))) w'):=⟨fun W hb=>by
    obtain⟨h1,h2,h3,h4,h5⟩:=HST.o;rw[← h1.1];refine (Jc (p:=⟨3,k,(q:Int),0,⟨ew,ei,eo⟩⟩) (v:=.slice Ax eo.length cx) (h2.below hb) (hops.below hb (Grow.refl _ _)) (by omega)).mono ?_;rintro e w' ⟨rfl,hs,-⟩;refine⟨rfl,?_⟩;rw[HTM.o,RM.sends_snoc];exact RRmX.step h1 (h2.below hb) (fun R3 w3 k=>h3 R3 w3 (Qp.from_below h2 hb k)) h4 (h5.below hb h5.lt) hs⟩
   clear hR hnx hnB hbox hbox' hso hve hsl hsl2 hops hent HTM HST hlo hlen hl2 ha HX x1 x2 x3 s0 s2 y0 y2 y3 y4 y5 y6 hql hqlog;go_wp2_with fail;go_still_tail 15,(by kernel_rfl)
   change wpList _ _ _ _ _ wr.drew;go_wp2_with fail;refine (HSD.o _ (Qe (Wac _ _))).mono ?_;rintro e w3 ⟨rfl,h3⟩;have H3:=Hm h3;clear h3 x0 s1 y1 e0 e1 e2;go_wp2_with fail
   exact⟨⟨q+1,by omega,by omega,by go_num,H3.o⟩,by simp only[intOf];omega⟩
  ·obtain rfl:q=NN:=by omega
   have HXT:Hd (RRmX F r w w.heap.size 96 bx (R2.tells k n) wr):=⟨by
    have h1:=HX.o;have h2:=HNN.o
    have e1:R2.tells k n=R2.sends (Qu k n (R2.srv.log.drop n)):=by
     unfold RM.tells;rw[if_pos ⟨by omega,by omega⟩,show ((n:Nat):Int).toNat=n from by omega]
    rw[e1,← Qfx,← h2.2.1];exact h1⟩
   clear hR hnx hnB hbox hbox' hso hve hsl hsl2 HST HX x1 x2 x3 s0 s2 ha y0 y2 y4 y5 y6
   have HSD:Hd (∀ W,RRmX F r w w.heap.size 96 bx (R2.tells k n) W→Calls prog 81 #[.pointer (some ⟨r.a,0,none⟩),.agg #[.int .i64 4,.int .i64 (k:Int),.int .i64 0,.int .i64 id,.int .i64 0,.int .i64 0,.slice none 0 0]] W fun e w'=>e=.returned (.tuple #[])∧RRmX F r w w.heap.size 96 bx ((R2.tells k n).send ⟨4,k,0,id,QR⟩) w') :=
    ⟨fun W h1=>h1.call (fun r1 F1 ha h1=>by
     rw[← ha.1];refine (Jc (p:=⟨4,k,0,id,QR⟩) (v:=.slice none 0 0) h1 (OpO.nil _ _) ?_).mono (fun e w' hh=>⟨hh.1,hh.2.1⟩);have h0:=HLO.o;have h2:=HNN.o
     have e1:R2.tells k n=R2.sends (Qu k n (R2.srv.log.drop n)):=by
      unfold RM.tells;rw[if_pos ⟨by omega,by omega⟩,show ((n:Nat):Int).toNat=n from by omega]
     have:=RM.sends_lost R2 (Qu k n (R2.srv.log.drop n))
     rw[(Yf _ _ _).2,War] at this;rw[e1];omega)⟩
   by_cases h0:t.1=0
   ·have HZ:=Hm h0;rw[h0];clear h0;go_wp2_with fail;go_end0;rw[HR.o,if_neg (fun e=>e.1 HZ.o),← HR2.o]
    exact⟨rfl,HXT.o.fin⟩
   ·by_cases h8:t.1=8
    ·have HZ:=Hm h8;rw[h8];clear h8 h0;go_wp2_with fail;go_end0;rw[HR.o,if_neg (fun e=>e.2 HZ.o),← HR2.o]
     exact⟨rfl,HXT.o.fin⟩
    ·have HZ:=Hm (Wao h0 h8);have hq0:(t.1 != 0)=true:=bne_iff_ne.2 h0;have hq8:(t.1 != 8)=true:=bne_iff_ne.2 h8;clear h0 h8;go_wp2_with fail;refine (HSD.o _ HXT.o).mono ?_;rintro e w3 ⟨rfl,h3⟩;have H3:=Hm h3;clear h3;go_wp2_with fail;go_end0;rw[HR.o,if_pos HZ.o,← HR2.o]
     exact⟨rfl,H3.o.fin⟩
theorem Qm8 (h:CmR w F r R p v C c N)(hcl:R.cl.length≤1000000) :
  Calls prog 39 #[.pointer (some ⟨r.a,0,none⟩),pkV p.z v] w fun e w'=>e=.returned (.tuple #[])∧Qp F r (R.comes p).z w w':=by
 rcases h.pk.kd with hk | hk | hk | hk
 ·exact Qm7 h hk hcl
 ·exact Qm6 h hk hcl
 ·exact Qm4 h hk
 ·exact Qm5 h hk
end
end
section
open Go.RowKit Go.Sort
section
attribute [local go_sem] Qr
variable {F:Nat→Prop}{w:World}{r:RRP}{R:RM}{N B:Int}
theorem Qdd {i:Nat}{p:PK}(h:RRmR w F r R.z)(hb:RMb N B R)(hN:N≤1000000)(hB:B≤700000000)(hp:R.way[i]?=some p)(hcl:R.cl.length≤1000000) :
  Calls prog 40 #[.pointer (some ⟨r.a,0,none⟩),.int .i64 (i:Int)] w fun e w3=>∃ v,e=.returned (pkV p.z v) ∧
   Calls prog 39 #[.pointer (some ⟨r.a,0,none⟩),pkV p.z v] w3 fun e w4=>e=.returned (.tuple #[])∧Qp F r (R.deliver i).z w w4:=by
 have hm:=hb.ok.wl;refine (Qfv h (RM.z_at hp) (by rw[RM.z_len];exact hm)).mono ?_;rintro e w3 ⟨⟨v,rfl,hop⟩,hs⟩;refine⟨v,rfl,?_⟩;obtain⟨r4,F4,ha4,hcs4,hR4,ho4,hoF4,hgr4,hnx4⟩:=Qp.next h hs;obtain⟨C,hC,hpk⟩:=hb.ok.way p (List.mem_of_getElem? hp);rw[← RM.z_out] at hR4;obtain⟨c,hc,-⟩:=hR4.get (k:=p.k) (C:=C) hC;rw[p.z_same.2.2.2] at hop;have hbd:=hb.bd;have hl0:=hb.l0;have hd:R.deliver i=(R.out i).comes p:=by unfold RM.deliver;rw[hp]
 rw[← ha4.1,hd];refine (Qm8 ⟨hR4,hop.only hoF4 hgr4,hb.ok.out i,hN,by have:(R.out i).srv=R.srv:=rfl;rw[this];omega,by have:(R.out i).lost=R.lost:=rfl;rw[this];omega,hC,hc,hpk⟩ hcl).mono ?_;rintro e w4 ⟨rfl,h4⟩
 exact⟨rfl,hnx4 _ _ h4⟩
structure FlZ (F:Nat→Prop)(r:RRP)(R:RM)(N B:Int)(w:World)(n:Nat)(Rk:RM)(wr:World):Prop where
 wt:wts Rk.way=n
 ok:RMb N B Rk
 fl:Rk.flows=R.flows
 cl:Rk.cl.length=R.cl.length
 rm:Qp F r Rk.z w wr
noncomputable def qst (R:RM)(j:Nat):RM:=if j=0 then R else R.flows.turns (j-1)
structure QuZ (F:Nat→Prop)(r:RRP)(R:RM)(N B:Int)(w:World)(j:Nat)(wr:World):Prop where
 ok:RMb N (B+j*1000) (qst R j)
 cl:(qst R j).cl.length=R.cl.length
 rm:Qp F r (qst R j).z w wr
theorem Qqk (h:RRmR w F r R.z)(hb:RMb N B R)(hN:N≤1000000)(hB:B≤600000000)(hcl:R.cl.length≤1000) :
  Calls prog 45 #[.pointer (some ⟨r.a,0,none⟩)] w fun e w'=>e=.returned (.tuple #[])∧Qp F r R.quiet.z w w':=by
 have HL:=Hm h;have HN:=Hm (Wao hN (Wao hB hcl));have HB:=Hm hb;obtain⟨m,hm⟩:∃ m,m=R.cl.length:=⟨_,rfl⟩;have hml:m≤1000:=by omega
 have HM:=Hm hm;clear h hb hN hB hcl hm;go_enter func45,ntmps45
 go_wp2_with fail
 go_loopw [2] (fun i wr=>∃ j:Nat,j≤m+1∧i=.int .i64 ((j:Int)-1)∧QuZ F r R N B w j wr) (fun i _=>m+1-(intOf i+1).toNat)
 case atStart=>exact⟨0,by omega,rfl,⟨by have:=HB.o;simpa [qst] using this,rfl,by simpa [qst] using Qp.of_below HL.o (Wac _ _)⟩⟩
 case round =>
  obtain⟨j,hj,rfl,hq⟩:=hrel;have HQ:=Hm hq;obtain⟨r1,F1,ha,hcs,hR,ho,hoF,hgr,hnx⟩:=Qp.next HL.o hq.rm;obtain⟨z0,z1,z2,z3⟩:=Qk hR.blk;obtain⟨A,c,hv,-⟩:=hR.vcs;have hlen:r1.cs.length=m:=by rw[hR.len];show (qst R j).cl.length=m;rw[hq.cl,HM.o]
  rw[hv,hlen] at z1;rw[ha.1] at z1;have lt:=hR.blk.lt;rw[ha.1] at lt;have HST:=Hm (Wao ha.1 (Wao hR hnx));clear hq hcs hv z0 z2 z3 hR ho hoF hgr hnx ha hlen
  by_cases hjm:j=m+1
  ·have hjm':¬ ((j:Int)-1<(m:Int)):=by omega
   have HJ:=Hm hjm;clear hjm;go_wp2_with fail;go_end0;have h1:=HQ.o.rm;rw[HJ.o,HM.o] at h1
   exact⟨rfl,h1⟩
  ·have hjm':((j:Int)-1<(m:Int)):=by omega
   have hjm2:j≤m:=by omega
   cases j with
   | zero =>
    obtain⟨R0,hR0⟩:∃ R0,R0=R:=⟨_,rfl⟩;have HR0:=Hm hR0
    have HI0:Hd (RMb N (B+0*1000) R0∧R0.cl.length=R.cl.length∧Qp F r R0.z w wr):=⟨by
     have h:=HQ.o;have e:qst R 0=R:=rfl;have h1:=h.ok;have h2:=h.rm;rw[e] at h1 h2;rw[hR0]
     exact⟨by simpa using h1,rfl,h2⟩⟩
    clear hR0 HST;go_wp2_with fail;obtain⟨n0,hn0⟩:∃ n,n=wts R0.way:=⟨_,rfl⟩;have HFS:Hd (FlZ F r R0 N (B+0*1000) w n0 R0 wr):=⟨⟨hn0.symm,HI0.o.1,rfl,rfl,HI0.o.2.2⟩⟩;clear hn0 HQ
    go_loopg [] n0 (fun gk wr=>∃ Rk:RM,FlZ F r R0 N (B+0*1000) w gk Rk wr)
    case atStart=>exact⟨R0,HFS.o⟩
    case round =>
     obtain⟨Rk,hI⟩:=hrel;have HI:=Hm hI;obtain⟨r1,F1,ha,hcs,hR,ho,hoF,hgr,hnx⟩:=Qp.next HL.o hI.rm;obtain⟨z0,z1,z2,z3⟩:=Qk hR.blk;obtain⟨A,c,hv⟩:=Qg hR.own;rw[hv,hR.wl,RM.z_len] at z2;rw[ha.1] at z2;have HR:=Hm hR;have HA:=Hm ha.1;have HNX:=Hm hnx;have lt:=hR.blk.lt;rw[ha.1] at lt;clear HFS hI hcs ho hoF hgr hnx hv z0 z1 z3 ha hR
     by_cases hw:Rk.way=[]
     ·have hl:Rk.way.length=0:=by rw[hw];rfl
      have HW:=Hm hw;clear hw;go_wp2_with fail;have h1:=HI.o.fl;rw[RM.flows_nil HW.o] at h1;have hok:=HI.o.ok;have hcl:=HI.o.cl;have hrm:=HI.o.rm;rw[h1] at hok hcl hrm;refine⟨⟨1,by omega,by go_num,⟨?_,?_,?_⟩⟩,by simp only[intOf];omega⟩
      ·have e:qst R 1=R0.flows:=by rw[HR0.o];rfl
       rw[e];exact hok.mono (Wba _) (by omega)
      ·have e:qst R 1=R0.flows:=by rw[HR0.o];rfl
       rw[e,hcl,HI0.o.2.1]
      ·have e:qst R 1=R0.flows:=by rw[HR0.o];rfl
       rw[e];exact hrm
     ·have hl:0<Rk.way.length:=Wax.2 hw;have HW:=Hm hw;obtain⟨p,hp⟩:∃ p,Rk.way[0]?=some p:=⟨_,Waj hl⟩;have hD:=Qdd HR.o HI.o.ok HN.o.1 (by have:=HN.o.2.1;omega) hp (by rw[HI.o.cl,HI0.o.2.1];have:=HN.o.2.2;omega);rw[HA.o] at hD;have HD:=Hm hD;clear hw hD hp
      go_wp2_with (first
       | (go_at_call 40;refine HD.o.mono ?_;rintro e w3 ⟨v3,rfl,hc3⟩;have HC3:=Hm hc3;clear hc3)
       | (go_at_call 39;refine HC3.o.mono ?_;rintro e w4 ⟨rfl,h4⟩;have H4:=Hm h4;clear h4))
      go_roundg (wts (Rk.deliver 0).way)
      case measure =>
       cases hl2:Rk.way with
       | nil=>exact absurd hl2 HW.o
       | cons p l =>
        have:=HI.o.ok.ok.lighter hl2
        rw[HI.o.wt] at this;exact this
      case rel =>
       exact⟨Rk.deliver 0,rfl,HI.o.ok.deliver 0,by rw[← HI.o.fl,HI.o.ok.ok.flows_cons HW.o],by rw[Rk.deliver_cl 0];exact HI.o.cl,HNX.o _ _ H4.o⟩
   | succ j =>
    have hj1:((j+1:Nat):Int)-1=(j:Int):=by omega
    rw[hj1] at hjm' ⊢;have hjm3:j<m:=by omega
    obtain⟨C,hC⟩:∃ C,(qst R (j+1)).z.cl[j]?=some C:=⟨_,Waj (by show j<(qst R (j+1)).cl.length;rw[HQ.o.cl,← HM.o];exact hjm3)⟩;have hbd:=HQ.o.ok.bd;have hl0:=HQ.o.ok.l0;have hsd:=Qi6 HST.o.2.1 hC (by show -1000000000≤(qst R (j+1)).lost∧(qst R (j+1)).lost≤1000000000;have:=HN.o.2.1;omega);rw[HST.o.1] at hsd;have HSD:=Hm hsd;clear hsd hC hbd hl0;go_wp2_with (go_at_call 37;refine HSD.o.mono ?_;rintro e w2 ⟨rfl,h2⟩;have H2:=Hm h2;clear h2)
    obtain⟨R0,hR0⟩:∃ R0,R0=(R.flows.turns j).asks j:=⟨_,rfl⟩;have HR0:=Hm hR0
    have HI0:Hd (RMb N (B+(j+2:Nat)*1000) R0∧R0.cl.length=R.cl.length∧Qp F r R0.z w w2):=⟨by
     have h:=HQ.o;have e:qst R (j+1)=R.flows.turns j:=rfl;have h1:=h.ok.asks j;have h2:=HST.o.2.2 _ _ H2.o;have h3:=h.cl;rw[← RM.z_asks] at h2;rw[e] at h1 h2 h3;rw[hR0]
     exact⟨h1.mono (Wba _) (by omega),by rw[(RM.asks_srv _ _).2];exact h3,h2⟩⟩
    clear hR0 HST z1 H2;obtain⟨n0,hn0⟩:∃ n,n=wts R0.way:=⟨_,rfl⟩;have HFS:Hd (FlZ F r R0 N (B+(j+2:Nat)*1000) w n0 R0 w2):=⟨⟨hn0.symm,HI0.o.1,rfl,rfl,HI0.o.2.2⟩⟩;clear hn0 HQ
    go_loopg [] n0 (fun gk wr=>∃ Rk:RM,FlZ F r R0 N (B+(j+2:Nat)*1000) w gk Rk wr)
    case atStart=>exact⟨R0,HFS.o⟩
    case round =>
     obtain⟨Rk,hI⟩:=hrel;have HI:=Hm hI;obtain⟨r1,F1,ha,hcs,hR,ho,hoF,hgr,hnx⟩:=Qp.next HL.o hI.rm;obtain⟨z0,z1,z2,z3⟩:=Qk hR.blk;obtain⟨A,c,hv⟩:=Qg hR.own;rw[hv,hR.wl,RM.z_len] at z2;rw[ha.1] at z2;have HR:=Hm hR;have HA:=Hm ha.1;have HNX:=Hm hnx;have lt:=hR.blk.lt;rw[ha.1] at lt;clear HFS hI hcs ho hoF hgr hnx hv z0 z1 z3 ha hR
     by_cases hw:Rk.way=[]
     ·have hl:Rk.way.length=0:=by rw[hw];rfl
      have HW:=Hm hw;clear hw;go_wp2_with fail;have h1:=HI.o.fl;rw[RM.flows_nil HW.o] at h1;have hok:=HI.o.ok;have hcl:=HI.o.cl;have hrm:=HI.o.rm;rw[h1] at hok hcl hrm
      have e:qst R (j+1+1)=R0.flows:=by
       rw[HR0.o];exact RM.turns_succ _ _
      refine⟨⟨j+1+1,by omega,by go_num,⟨?_,?_,?_⟩⟩,by simp only[intOf];omega⟩
      ·rw[e];exact hok.mono (Wba _) (by omega)
      ·rw[e,hcl,HI0.o.2.1]
      ·rw[e];exact hrm
     ·have hl:0<Rk.way.length:=Wax.2 hw;have HW:=Hm hw;obtain⟨p,hp⟩:∃ p,Rk.way[0]?=some p:=⟨_,Waj hl⟩;have hD:=Qdd HR.o HI.o.ok HN.o.1 (by have:=HN.o.2.1;omega) hp (by rw[HI.o.cl,HI0.o.2.1];have:=HN.o.2.2;omega);rw[HA.o] at hD;have HD:=Hm hD;clear hw hD hp
      go_wp2_with (first
       | (go_at_call 40;refine HD.o.mono ?_;rintro e w3 ⟨v3,rfl,hc3⟩;have HC3:=Hm hc3;clear hc3)
       | (go_at_call 39;refine HC3.o.mono ?_;rintro e w4 ⟨rfl,h4⟩;have H4:=Hm h4;clear h4))
      go_roundg (wts (Rk.deliver 0).way)
      case measure =>
       cases hl2:Rk.way with
       | nil=>exact absurd hl2 HW.o
       | cons p l =>
        have:=HI.o.ok.ok.lighter hl2
        rw[HI.o.wt] at this;exact this
      case rel =>
       exact⟨Rk.deliver 0,rfl,HI.o.ok.deliver 0,by rw[← HI.o.fl,HI.o.ok.ok.flows_cons HW.o],by rw[Rk.deliver_cl 0];exact HI.o.cl,HNX.o _ _ H4.o⟩
end
end
end Go.Proofs.YtdgdajnbkfmijaaGreatDoor
