/- Texts of the proof. -/
import Derived.Test.YtdgdajnbkfmijaaGreatDoorM47
import Derived.Test.YtdgdajnbkfmijaaGreatDoorM37
namespace Go.Proofs.YtdgdajnbkfmijaaGreatDoor
open Go.Proofs.Tryz
set_option maxRecDepth 100000
set_option maxHeartbeats 32000000
section
open Go.RowKit Go.Sort
structure RCP where
 a:Nat
 vw:Value
 vt:Value
def RCP.F (c:RCP)(j:Nat):Prop:=j=c.a
def RCP.cells (c:RCP)(C:CV):Array Value:=#[.int .i64 C.who,.int .i64 C.unit,.string ⟨(U.encs C.doc).toArray⟩,.string ⟨(U.encs C.seen).toArray⟩,.int .i64 (C.rev:Int),.int .i64 C.id,c.vw,c.vt,.bool C.has,.bool C.more,.int .i64 C.dropped]
structure RCliR (w:World)(F:Nat→Prop)(c:RCP)(C:CV):Prop where
 blk:Blk w c.a 99 (c.cells C)
 way:OpO F w c.vw C.way
 wts:OpO F w c.vt C.waits
 sub:∀ j,c.F j→F j
 flt:∀ j,F j→j<w.heap.size
section
variable {F F' G:Nat→Prop}{w w':World}{c:RCP}{C:CV}
theorem RCliR.only (h:RCliR w F c C)(ho:Only G w w')(hG:∀ j,G j→F j)(hs:∀ j,c.F j→¬ G j)(hF:Grow F F' w.heap.size)(hs':∀ j,c.F j→F' j)(hl:∀ j,F' j→j<w'.heap.size):RCliR w' F' c C :=
 ⟨h.blk.only ho (hs _ rfl),h.way.only (ho.mono (fun k _=>hG k)) hF,h.wts.only (ho.mono (fun k _=>hG k)) hF,hs',hl⟩
theorem RCliR.below (h:RCliR w F c C)(hb:Below w.heap.size w w'):RCliR w' F c C:=h.only (G:=fun _=>False) (Only.of_below hb) (fun _ e=>e.elim) (fun _ _ e=>e) (Grow.refl _ _) h.sub (fun j hj=>Wal (h.flt j hj) hb.size)
theorem Zj {g:Nat}{ty:TypeId}{a0 a1 a2 a3 a4 a5 a6 a7 a8 a9 b0:Value}(h:Blk w g ty #[a0,a1,a2,a3,a4,a5,a6,a7,a8,a9,b0]) :
  w.cell? ⟨g,0,none⟩=some a0∧w.cell? ⟨g,1,none⟩=some a1∧w.cell? ⟨g,2,none⟩=some a2∧w.cell? ⟨g,3,none⟩=some a3∧w.cell? ⟨g,4,none⟩=some a4 ∧
   w.cell? ⟨g,5,none⟩=some a5∧w.cell? ⟨g,6,none⟩=some a6∧w.cell? ⟨g,7,none⟩=some a7∧w.cell? ⟨g,8,none⟩=some a8∧w.cell? ⟨g,9,none⟩=some a9∧w.cell? ⟨g,10,none⟩=some b0:=by
 have z:=fun j=>h.cell j
 have z0:=z 0;have z1:=z 1;have z2:=z 2;have z3:=z 3;have z4:=z 4;have z5:=z 5;have z6:=z 6;have z7:=z 7;have z8:=z 8;have z9:=z 9;have y0:=z 10;simp only[Wab,Waa,Wae] at z0 z1 z2 z3 z4 z5 z6 z7 z8 z9 y0
 exact⟨z0,z1,z2,z3,z4,z5,z6,z7,z8,z9,y0⟩
theorem RCliR.cells {a:Nat}{vw vt:Value}(h:RCliR w F ⟨a,vw,vt⟩ C) :
  w.cell? ⟨a,0,none⟩=some (.int .i64 C.who)∧w.cell? ⟨a,1,none⟩=some (.int .i64 C.unit)∧w.cell? ⟨a,2,none⟩=some (.string ⟨(U.encs C.doc).toArray⟩)∧w.cell? ⟨a,3,none⟩=some (.string ⟨(U.encs C.seen).toArray⟩)∧w.cell? ⟨a,4,none⟩=some (.int .i64 (C.rev:Int))∧w.cell? ⟨a,5,none⟩=some (.int .i64 C.id) ∧
   w.cell? ⟨a,6,none⟩=some vw∧w.cell? ⟨a,7,none⟩=some vt∧w.cell? ⟨a,8,none⟩=some (.bool C.has)∧w.cell? ⟨a,9,none⟩=some (.bool C.more)∧w.cell? ⟨a,10,none⟩=some (.int .i64 C.dropped):=Zj h.blk
def QE (F:Nat→Prop)(c:RCP)(ev:Value)(C':CV)(w:World)(e:Ending)(w':World):Prop :=
 ∃ c':RCP,c'.a=c.a∧Only c.F w w'∧e=.returned ev∧∀ F',(∀ j,F' j→F j∨c'.F j)→(∀ j,c'.F j→F' j)→RCliR w' F' c' C'
theorem QE.same {ev:Value}(h:RCliR w F c C)(hb:Below w.heap.size w w'):QE F c ev C w (.returned ev) w' :=
 ⟨c,rfl,Only.of_below hb,rfl,fun _ h1 h2=>h.only (G:=fun _=>False) (Only.of_below hb) (fun _ e=>e.elim) (fun _ _ e=>e) (fun j hj=>.inl ((h1 j hj).elim id (h.sub j))) h2 (fun j hj=>Wal (h.flt j ((h1 j hj).elim id (h.sub j))) hb.size)⟩
theorem QE.turn {ev vw vt:Value}{C':CV}(h:RCliR w F c C)(ho:Only c.F w w')(hb:Blk w' c.a 99 (RCP.cells ⟨c.a,vw,vt⟩ C'))(h1:OpO F w' vw C'.way)(h2:OpO F w' vt C'.waits):QE F c ev C' w (.returned ev) w' :=
 ⟨⟨c.a,vw,vt⟩,rfl,ho,rfl,fun F' k1 k2=>by
  have k:=fun j hj=>(k1 j hj).elim id (fun e=>h.sub j e)
  exact⟨hb,h1.sub k,h2.sub k,k2,fun j hj=>Wal (h.flt j (k j hj)) ho.size⟩⟩
end
theorem Ql4 {w:World}{F:Nat→Prop}{c:RCP}{C:CV}{T id:Int}(h:RCliR w F c C)(hk:COk T C)(hT:T≤1000000) :
  Calls prog 85 #[.pointer (some ⟨c.a,0,none⟩),.int .i64 id] w (QE F c (.tuple #[]) (C.refused id) w):=by
 obtain⟨a,vw,vt⟩:=c;have HL:=Hm h;obtain⟨z0,z1,z2,z3,z4,z5,z6,z7,z8,z9,y0⟩:=h.cells;have fz:=h.blk.frozen;have lt:=h.blk.lt;have HBK:=Hm h.blk;have hd1:-1≤C.dropped:=by have:=hk.dr;omega
 have hd2:C.dropped≤1000000:=by have:=hk.dr;omega
 clear h hk;dsimp only at fz lt
 by_cases hr:C.has=true∧id=C.id
 ·obtain⟨h1,rfl⟩:=hr;have HH:=Hm h1;rw[h1] at z8;have hC:Hd (C.refused C.id={ C with doc:=C.seen,has:=false,more:=false,way:=[],waits:=[],dropped:=C.dropped+1 }):=⟨by unfold CV.refused;rw[if_pos ⟨h1,rfl⟩]⟩;clear h1;go_enter func85,ntmps85
  go_wp2_with fail;go_end0;rw[hC.out];refine QE.turn (vw:=.slice none 0 0) (vt:=.slice none 0 0) HL.o ((((((((Only.refl (fun k=>k=a) w).setCell (p:=⟨a,2,none⟩) (.inl rfl) (.string ⟨(U.encs C.seen).toArray⟩)).setCell (p:=⟨a,8,none⟩) (.inl rfl) (.bool false)).setCell (p:=⟨a,9,none⟩) (.inl rfl) (.bool false)).setCell (p:=⟨a,6,none⟩) (.inl rfl) (.slice none 0 0)).setCell (p:=⟨a,7,none⟩) (.inl rfl) (.slice none 0 0)).setCell (p:=⟨a,10,none⟩) (.inl rfl) (.int .i64 (C.dropped+1))).mono (fun k _ e=>e)) ?_ (OpO.nil _ _) (OpO.nil _ _);exact (((((HBK.o.set_ 2 (.string ⟨(U.encs C.seen).toArray⟩)).set_ 8 (.bool false)).set_ 9 (.bool false)).set_ 6 (.slice none 0 0)).set_ 7 (.slice none 0 0)).set_ 10 (.int .i64 (C.dropped+1))
 ·have hC:Hd (C.refused id=C):=⟨by unfold CV.refused;rw[if_neg hr]⟩
  cases hh:C.has
  ·rw[hh] at z8;clear hr hh;go_enter func85,ntmps85
   go_wp2_with fail;go_end0;rw[hC.out];exact QE.same HL.o (Wac _ _)
  ·have hq:(id == C.id)=false:=by rw[Waf];exact fun e=>hr ⟨hh,e⟩
   rw[hh] at z8;clear hr hh;go_enter func85,ntmps85
   go_wp2_with fail;go_end0;rw[hC.out];exact QE.same HL.o (Wac _ _)
theorem Ql5 {w:World}{F:Nat→Prop}{c:RCP}{C:CV}{e:EN}{v:Value}{rev:Int}(h:RCliR w F c C)(hr:rev≠C.rev) :
  Calls prog 84 #[.pointer (some ⟨c.a,0,none⟩),.int .i64 rev,.agg #[.int .i64 e.who,.int .i64 e.id,v]] w (QE F c (.int .i64 0) C w):=by
 obtain⟨a,vw,vt⟩:=c;have HL:=Hm h;obtain⟨z0,z1,z2,z3,z4,z5,z6,z7,z8,z9,y0⟩:=h.cells;have lt:=h.blk.lt;have hq:(rev == (C.rev:Int))=false:=by rw[Waf];exact hr
 clear h hr;dsimp only at lt;go_enter func84,ntmps84
 go_wp2_with fail;go_ret;exact QE.same HL.o (Qa (Wac _ _) _)
end
section
open Go.RowKit Go.Sort
theorem RmR.pk_at {F:Nat→Prop}{w:World}{r:RP}{R:RM}(h:RmR w F r R){i:Nat}{p:PK}(hp:R.way[i]?=some p):∃ v,r.L[i]?=some (p,v)∧OpO F w v p.en.op:=by
 have h1:=h.way;rw[← h1,Wav] at hp
 cases hx:r.L[i]? with
 | none=>rw[hx] at hp;cases hp
 | some x =>
  rw[hx] at hp;obtain⟨q,v⟩:=x
  cases hp
  exact⟨v,rfl,h.ops _ (List.mem_of_getElem? hx)⟩
section
attribute [local go_sem] Qr
variable {F:Nat→Prop}{w:World}{r:RP}{R:RM}{N B:Int}
theorem Qj3 {k:Nat}{C:CV}(h:RmR w F r R)(hb:RMb N B R)(_hN:N≤1000000)(hB:B≤800000000)(hC:R.cl[k]?=some C) :
  Calls prog 38 #[.pointer (some ⟨r.a,0,none⟩),.int .i64 (k:Int)] w fun e w'=>e=.returned .nilIface∧RmS F r (R.asks k) w w':=by
 obtain⟨c,hc,hcr⟩:=h.get hC;have hck:=hb.ok.cl k C hC;have HCL:=Hm (Qeg h hc);have hlost:-1000000000≤R.lost∧R.lost≤1000000000:=by have:=hb.l0;have:=hb.bd;omega
 have hwl:C.way.length≤1000000:=by
  cases hh:C.has
  ·rw[(hck.ok.no hh).2.1];simp
  ·obtain⟨X,hX,hp,-⟩:=hck.ok.yes hh
   have:=ZW (fun p hp=>(hX.arg p hp).1)
   have:=hX.sizes.1
   have:=hck.ok.sz
   omega
 have HAS:=Hm (Qn6 hcr hwl);have HL:=Hm h;have HA:Hd (R.asks k=R.send (C.asks k)):=⟨by unfold RM.asks;rw[hC]⟩;have HFL:=Hm h.flt;have HLO:=Hm hlost;clear h hb hck hcr hlost hwl
 cases hh:C.has
 ·have HP:=Hm (CV.asks_no hh k);have HH:=Hm hh;clear hh;go_enter func38,ntmps38
  go_wp2_with (first
   | (go_at_call 27;refine HCL.o.mono ?_;rintro e w1 ⟨rfl,rfl⟩)
   | (go_at_call 82;refine HAS.o.mono ?_;rintro e w2 ⟨hb2,h2,-⟩;obtain rfl:=h2 HH.o;have HB2:=Hm hb2;clear hb2 h2)
   | (go_at_call 83;refine (JK (p:=⟨2,k,C.rev,0,QR⟩) (v:=.slice none 0 0) (HL.o.below HB2.o) (OpO.nil _ _) HLO.o).mono ?_;rintro e w3 ⟨rfl,h3⟩;have H3:=Hm h3;clear h3))
  go_ret;rw[HA.o,HP.o]
  exact⟨rfl,RmS.from_below HL.o HB2.o H3.o⟩
 ·have HP:=Hm (CV.asks_yes hh k);have HH:=Hm hh;clear hh;go_enter func38,ntmps38
  go_wp2_with (first
   | (go_at_call 27;refine HCL.o.mono ?_;rintro e w1 ⟨rfl,rfl⟩)
   | (go_at_call 82;refine HAS.o.mono ?_;rintro e w2 ⟨hb2,-,h2⟩;obtain⟨v2,rfl,hs2,hf2⟩:=h2 HH.o;have HB2:=Hm hb2;have HO2:=Hm (OpO.frs hs2 hf2 HFL.o);obtain⟨A2,c2,rfl,-⟩:=hs2;clear hb2 h2 hf2)
   | (go_at_call 83;refine (JK (p:=⟨1,k,C.rev,C.id,⟨k,C.id,C.way⟩⟩) (v:=.slice A2 C.way.length c2) (HL.o.below HB2.o) HO2.o HLO.o).mono ?_;rintro e w3 ⟨rfl,h3⟩;have H3:=Hm h3;clear h3))
  go_ret;rw[HA.o,HP.o]
  exact⟨rfl,RmS.from_below HL.o HB2.o H3.o⟩
theorem RmR.outs {w3:World}{i g cap:Nat}(h:RmR w F r R)(hv:r.vw=.slice (some ⟨g,0,none⟩) R.way.length cap)(hi:i<R.way.length)
  (hd:w3.ownsRow 0 158 7 (.slice (some ⟨g,0,none⟩) (R.way.length-1) cap) (R.way.length-1) ((pks r.L).take (i*7)++(pks r.L).drop ((i+1)*7))) (ho:Only (fun j=>j=g) w w3):RmS F r (R.out i) w (w3.setCell ⟨r.a,2,none⟩ (.slice (some ⟨g,0,none⟩) (R.way.length-1) cap)):=by
 have hg:r.vw.ownBlock=some g:=by rw[hv];rfl
 have hag:r.a≠g:=fun e=>h.a_w (by rw[hg,e])
 have hO3:Only (fun j=>j=r.a) w3 (w3.setCell ⟨r.a,2,none⟩ (.slice (some ⟨g,0,none⟩) (R.way.length-1) cap)):=(Only.refl (fun j=>j=r.a) w3).setCell (p:=⟨r.a,2,none⟩) (.inl rfl) _;have hwl:=h.wl;have hl:(r.L.eraseIdx i).length=R.way.length-1:=by rw[List.length_eraseIdx,if_pos (by omega),hwl]
 have he:r.L.eraseIdx i=r.L.take i++r.L.drop (i+1):=List.eraseIdx_eq_take_drop_succ _ _;have hx:pks (r.L.eraseIdx i)=(pks r.L).take (i*7)++(pks r.L).drop ((i+1)*7):=by rw[he,Qa6,Qio,Qin]
 have hm:(r.L.eraseIdx i).map Prod.fst=R.way.eraseIdx i:=by rw[he,Wbo,List.map_take,List.map_drop,h.way,List.eraseIdx_eq_take_drop_succ]
 have hs:=h.ways (v':=.slice (some ⟨g,0,none⟩) (R.way.length-1) cap) (L':=r.L.eraseIdx i) (lost':=R.lost) ((ho.mono (fun j _ e=>.inr (by rw[hg,e]))).trans (hO3.mono (fun j _ e=>.inl e)))
  ((h.blk.only ho hag).set_ 2 _) (by rw[hl,hx];exact Qt hd hO3 (fun k hk=>by cases hk;exact fun e=>hag e.symm)) (fun k hk=>.inl (by rw[hg];exact hk)) (fun x hx=>h.ops x (List.mem_of_mem_eraseIdx hx))
 rw[hm] at hs;exact hs
theorem RmR.one_cells (h:RmR w F r R):∀ u∈pks r.L,u.oneCell'=true:=by
 intro u hu;obtain⟨x,hx,hu⟩:=List.mem_flatMap.1 hu;obtain⟨A,c,e,-⟩:=(h.ops x hx).1;exact Qbm (v:=x.2) (by rw[e];rfl) x.1 u hu
theorem RmR.row (h:RmR w F r R){i:Nat}(hi:i<R.way.length):∃ g cap,r.vw=.slice (some ⟨g,0,none⟩) R.way.length cap∧g≠r.a∧w.ownsRow 0 158 7 (.slice (some ⟨g,0,none⟩) R.way.length cap) R.way.length (pks r.L):=by
 have hown:=h.own;rw[h.wl] at hown;rcases hown.2 with ⟨e,e2⟩ | ⟨g,cap,cur,hv,-⟩
 ·omega
 ·refine⟨g,cap,hv,fun e=>h.a_w (by rw[hv,← e];rfl),?_⟩;rw[hv] at hown;exact hown
theorem Qub {i:Nat}(h:RmR w F r R)(hi:i<R.way.length)(hm:R.way.length≤400) :
  Calls prog 42 #[.pointer (some ⟨r.a,0,none⟩),.int .i64 (i:Int)] w fun e w'=>e=.returned .nilIface∧RmS F r (R.out i) w w':=by
 obtain⟨z0,z1,z2,z3⟩:=Qk h.blk;have fz:=h.blk.frozen;have lt:=h.blk.lt;obtain⟨g,cap,hv,hga,hown⟩:=h.row hi;rw[hv] at z2;have HD:=Hm (Qgx hown h.one_cells hi);have HV:=Hm hv;have HL:=Hm h;have HGA:=Hm hga;have HI:=Hm hi;clear h hown hv hga;go_enter func42,ntmps42
 go_wp2_with fail;refine HD.o.mono ?_;rintro e w3 ⟨rfl,ho3,hO3⟩;have hbk3:=HL.o.blk.only hO3 HGA.o.symm;obtain⟨y0,y1,y2,y3⟩:=Qk hbk3;have yf:=hbk3.frozen;have yl:=hbk3.lt;rw[HV.o] at y2;have HO3:=Hm (Wao ho3 hO3);clear ho3 hO3 hbk3 z0 z1 z2 z3 fz lt;go_wp2_with fail;go_ret
 exact⟨rfl,HL.o.outs HV.o HI.o HO3.o.1 HO3.o.2⟩
theorem Quc {i:Nat}{p:PK}(h:RmR w F r R)(hp:R.way[i]?=some p)(_hm:R.way.length≤400)(hl:-1000000000≤R.lost∧R.lost≤1000000000) :
  Calls prog 44 #[.pointer (some ⟨r.a,0,none⟩),.int .i64 (i:Int)] w fun e w'=>e=.returned .nilIface∧RmS F r (R.again i) w w':=by
 obtain⟨z0,z1,z2,z3⟩:=Qk h.blk;have hi:=(Wai.1 hp).1;obtain⟨g,cap,hv,hga,hown⟩:=h.row hi;obtain⟨v,hx,hop⟩:=h.pk_at hp;have hlx:=(Wai.1 hx).1;have hxe:r.L[i]=(p,v):=(Wai.1 hx).2;obtain⟨b,o,cc,hv2,hb,c0,c1,c2,c3,c4,c5,c6⟩:=(Sl.of_own hown).pk hi hlx
 cases hv2
 rw[hxe] at c0 c1 c2 c3 c4 c5 c6;rw[hv] at z2;obtain⟨A,ca,hvv,-⟩:=hop.sl;subst hvv;have HS:=Hm (JK h hop hl);unfold pkV at HS;have HA:Hd (R.again i=R.send p):=⟨by unfold RM.again;rw[hp]⟩;dsimp only at c0 c1 c2 c3 c4 c5 c6;rw[Nat.zero_add] at c0 c1 c2 c3 c4 c5 c6;clear h hown hv hga hp hx hlx hxe hop;go_enter func44,ntmps44
 go_wp2_with (go_at_call 83;refine HS.o.mono ?_;rintro e w3 ⟨rfl,h3⟩;have H3:=Hm h3;clear h3)
 go_ret;rw[HA.o]
 exact⟨rfl,H3.o⟩
theorem Qud {p:PK}{v:Value}{C:CV}{c:CP}(h:CmI w F r R p v C c N)(hcl:R.cl.length≤1000000) :
  Calls prog 87 #[.pointer (some ⟨r.a,0,none⟩),pkV p v] w fun e w'=>e=.returned (.tuple #[])∧RmS F r (R.comes p) w w':=by
 rcases h.pk.kd with hk | hk | hk | hk
 ·exact Qqu h hk hcl
 ·exact Qom h hk
 ·exact Qon h hk
 ·exact Qoo h hk
theorem Qj4 {i:Nat}(h:RmR w F r R)(hb:RMb N B R)(hN:N≤1000000)(hB:B≤700000000)(hi:i<R.way.length)(hcl:R.cl.length≤1000000) :
  Calls prog 41 #[.pointer (some ⟨r.a,0,none⟩),.int .i64 (i:Int)] w fun e w'=>e=.returned .nilIface∧RmS F r (R.deliver i) w w':=by
 obtain⟨p,hp⟩:∃ p,R.way[i]?=some p:=⟨_,Waj hi⟩;obtain⟨z0,z1,z2,z3⟩:=Qk h.blk;have fz:=h.blk.frozen;have lt:=h.blk.lt;obtain⟨g,cap,hv,hga,hown⟩:=h.row hi;have hm:=hb.ok.wl;obtain⟨v,hx,hop⟩:=h.pk_at hp;have hlx:=(Wai.1 hx).1;have hxe:r.L[i]=(p,v):=(Wai.1 hx).2;obtain⟨b,o,cc,hv2,hbb,c0,c1,c2,c3,c4,c5,c6⟩:=(Sl.of_own hown).pk hi hlx
 cases hv2
 rw[hxe] at c0 c1 c2 c3 c4 c5 c6;rw[hv] at z2;obtain⟨A,ca,hvv,-⟩:=hop.sl;subst hvv;obtain⟨C,hC,hpk⟩:=hb.ok.way p (List.mem_of_getElem? hp);obtain⟨c,hc,-⟩:=h.get hC;have hbd:=hb.bd;have hl0:=hb.l0;have HD:=fun W hb=>Hm (Qgx (Qt hown (Only.of_below (S:=fun _=>False) (hb:Below w.heap.size w W)) (fun _ _ e=>e)) h.one_cells hi)
 have HR:Hd (R.deliver i=(R.out i).comes p):=⟨by unfold RM.deliver;rw[hp]⟩
 have HCM:Hd (∀ W r1 F1,RmR W F1 r1 (R.out i)→r1.cs[p.k]?.map CP.a=some c.a→OpO F1 W (.slice A p.en.op.length ca) p.en.op→Calls prog 87 #[.pointer (some ⟨r1.a,0,none⟩),pkV p (.slice A p.en.op.length ca)] W fun e w'=>e=.returned (.tuple #[])∧RmS F1 r1 ((R.out i).comes p) W w') :=
  ⟨fun W r1 F1 h1 hc1 ho=>by
   obtain⟨c1,hc1',-⟩:=h1.get (k:=p.k) (C:=C) hC;exact Qud ⟨h1,ho,hb.ok.out i,hN,by have:(R.out i).srv=R.srv:=rfl;rw[this];omega,by have:(R.out i).lost=R.lost:=rfl;rw[this];omega,hC,hc1',hpk⟩ hcl⟩
 have HC:=Hm hc;have HV:=Hm hv;have HL:=Hm h;have HGA:=Hm hga;have HI:=Hm hi;have HOP:=Hm hop;have hgl:g<w.heap.size:=hbb;dsimp only at c0 c1 c2 c3 c4 c5 c6;rw[Nat.zero_add] at c0 c1 c2 c3 c4 c5 c6;unfold pkV at HCM;clear h hown hv hga hp hx hlx hxe hop hC hpk hc hb hbd hl0;go_enter func41,ntmps41
 go_wp2_with fail;refine (HD _ (Qa (Wac _ _) _)).out.mono ?_;rintro e w3 ⟨rfl,ho3,hO3⟩;have hb0:Below w.heap.size w (w.alloc (.cells #[.int .i64 p.kind,.int .i64 (p.k:Int),.int .i64 p.rev,.int .i64 p.id,.int .i64 p.en.who,.int .i64 p.en.id,.slice A p.en.op.length ca] 158)):=Qa (Wac _ _) _;have HB0:=Hm hb0;have hbk3:=(HL.o.below hb0).blk.only hO3 HGA.o.symm;have hbx3:=(Blk.new w 158 #[.int .i64 p.kind,.int .i64 (p.k:Int),.int .i64 p.rev,.int .i64 p.id,.int .i64 p.en.who,.int .i64 p.en.id,.slice A p.en.op.length ca]).only hO3 (fun e=>by omega);have hs3:=(HL.o.below hb0).outs HV.o HI.o ho3 hO3;have HS3:=Hm hs3;obtain⟨y0,y1,y2,y3⟩:=Qk hbk3;obtain⟨x0,x1,x2,x3,x4,x5,x6⟩:=Ym hbx3;have yf:=hbk3.frozen;have yl:=hbk3.lt;have xl:=hbx3.lt;have hne:r.a≠w.heap.size:=by omega
 have hne2:w.heap.size≠r.a:=by omega
 rw[HV.o] at y2;clear ho3 hO3 hbk3 hbx3 hs3 hb0 z0 z1 z2 z3 fz c0 c1 c2 c3 c4 c5 c6;obtain⟨r4,F4,ha4,hcs4,hR4,ho4,hoF4,hgr4,hnx4⟩:=RmS.next (HL.o.below HB0.o) HS3.o
 have hcc:r4.cs[p.k]?.map CP.a=some c.a:=by
  rw[← Wav,hcs4,Wav,HC.o]
  rfl
 have HCL:=Hm (HCM.o _ r4 F4 hR4 hcc ((HOP.o.below HB0.o (Grow.refl _ _)).only hoF4 hgr4));rw[ha4.1] at HCL;have HNX:=Hm hnx4;clear ha4 hcs4 hR4 ho4 hoF4 hgr4 hnx4 hcc;go_wp2_with (go_at_call 87;refine HCL.o.mono ?_;rintro e w5 ⟨rfl,h5⟩;have H5:=Hm h5;clear h5)
 go_ret;rw[HR.o]
 exact⟨rfl,RmS.from_below HL.o HB0.o (HNX.o _ _ H5.o)⟩
end
end
section
open Go.RowKit Go.Sort
def Qee (l:List PT)(w:World)(e:Ending)(w':World):Prop :=
 Below w.heap.size w w'∧∃ v,e=.returned (.tuple #[v,.int .i64 0])∧Sl w' 3 v l.length (opv l)∧Frs w.heap.size v
theorem Qbk {a b:List PT}{X Y:List (RU Int)}{R:List Int}{va vb:Value}{first:Bool}{w:World}(ha:Sl w 3 va a.length (opv a))(hb:Sl w 3 vb b.length (opv b))(hX:OpR a X R)(hY:OpR b Y R)(hR:bl R≤20000)(hpa:Qc a≤20000)(hpb:Qc b≤20000) :
  Calls prog 97 #[va,vb,.bool first] w (Qee (trl first a b) w):=by
 refine (Qgb (first:=first) ha hb (Xb hX hR hpa) (Xb hY hR hpb)).mono ?_;rintro e w' ⟨⟨hb',v,rfl,h0,-⟩,hf⟩;have hc:trc a b=0:=Qa2 hX.arg hY.arg hX.sizes.1 hY.sizes.1 (by omega)
 exact⟨hb',v,by rw[hc],h0 hc,hf _ _ rfl⟩
theorem Xx {l:List PT}{X:List (RU Int)}{R:List Int}{v:Value}{w:World}(hs:Sl w 3 v l.length (opv l))(hX:OpR l X R)(hR:U.AllR R)(hb:bl R≤100000)(hp:Qc l≤100000) :
  Calls prog 79 #[v,.string ⟨(U.encs R).toArray⟩] w fun e w'=>e=.returned (.tuple #[.string ⟨(U.encs (rap X R)).toArray⟩,.int .i64 0])∧Below w.heap.size w w':=by
 refine (Qih hs (fun p hp'=>by have:=Z8 hp';omega) (by omega) (by show bl R≤_;omega)).mono ?_;rintro e w' ⟨rfl,hb'⟩;obtain⟨a1,a2⟩:=hX.apply hR
 exact⟨by rw[a1,a2],hb'⟩
theorem QE.mine {w w7:World}{F:Nat→Prop}{C:CV}{e:EN}{a:Nat}{vw vt:Value}{b:Bool}{i0:Int}(h:RCliR w F ⟨a,vw,vt⟩ C)(hb7:Below w.heap.size w w7)(hm:C.more=b)(hi:(C.own e).id=i0){w8:World}(ho:Only (fun k=>k=a) w7 w8)
  (hb:Blk w8 a 99 #[.int .i64 C.who,.int .i64 C.unit,.string ⟨(U.encs C.doc).toArray⟩,.string ⟨(U.encs (C.own e).seen).toArray⟩,.int .i64 ((C.own e).rev:Int),.int .i64 i0,vt,.slice none 0 0,.bool b,.bool false,.int .i64 C.dropped]) :
  QE F ⟨a,vw,vt⟩ (.int .i64 0) (C.own e) w (.returned (.int .i64 0)) w8:=by
 have h7:=h.below hb7
 have:=QE.turn (ev:=.int .i64 0) (C':=C.own e) (vw:=vt) (vt:=.slice none 0 0) h7 (ho.mono (fun k _ e=>e)) (by subst hm hi;exact hb) (h7.wts.only (ho.mono (fun k _ e=>by subst e;exact h.sub _ rfl)) (Grow.refl _ _)) (OpO.nil _ _)
 obtain⟨c',a1,a2,a3,a4⟩:=this
 exact⟨c',a1,(Only.of_below hb7).trans a2,a3,a4⟩
theorem Que {w:World}{F:Nat→Prop}{c:RCP}{C:CV}{e:EN}{v:Value}{T:Int}{Z:List (RU Int)}(h:RCliR w F c C)(hk:COk T C)(hT:T≤1000000)(hrv:C.rev≤100000)(hx:OpO F w v e.op)(hf:Fit_ C e Z)(ho:C.isOwn e) :
  Calls prog 84 #[.pointer (some ⟨c.a,0,none⟩),.int .i64 (C.rev:Int),.agg #[.int .i64 e.who,.int .i64 e.id,v]] w (QE F c (.int .i64 0) (C.own e) w):=by
 obtain⟨W0,hW0⟩:∃ W,W=w.alloc (.cells #[.int .i64 e.who,.int .i64 e.id,v] 94):=⟨_,rfl⟩;have hb0:Below w.heap.size w W0:=by rw[hW0];exact Qa (Wac _ _) _
 have hbx:Blk W0 w.heap.size 94 #[.int .i64 e.who,.int .i64 e.id,v]:=by rw[hW0];exact Blk.new _ _ _
 have HSEEN:Hd (bl C.seen≤2000∧Qc e.op≤2000∧e.op.length≤4000):=⟨by
  have:=hf.op.bounds;have:=hf.sz;have:=hk.sz
  have:=ZW (fun p hp=>(hf.op.arg p hp).1);have:=hf.op.sizes.1
  omega⟩
 have hop:=hf.own ho;obtain⟨Av,cv,hv,-⟩:=hx.sl;subst hv;obtain⟨a,vw,vt⟩:=c;obtain⟨Aw,cw,hvw,-⟩:=h.way.sl;obtain⟨At,ct,hvt,-⟩:=h.wts.sl;dsimp only at hvw hvt ⊢;subst hvw hvt;have hws:=h.way.sl;dsimp only at hws;rw[← hop] at hws;have HWS:=Hm hws;have HW0:=Hm hW0;have HB0:=Hm hb0;have HBX:=Hm hbx;have HL:=Hm h;have HX:=Hm hx;have HF:=Hm hf;have HO:=Hm ho;have HK:=Hm hk;have HSN:Hd ((C.own e).seen=rap Z C.seen):=⟨ZF hf.op hk.all⟩;have HID:Hd (-1≤C.id∧C.id≤1000000):=⟨by have:=hk.id1;omega⟩;obtain⟨z0,z1,z2,z3,z4,z5,z6,z7,z8,z9,zz⟩:=h.cells;have lt:=h.blk.lt;dsimp only at lt;have HOP:=Hm (congrArg List.length hop);clear hb0 hbx h hx hf ho hk hW0 hop hws;go_enter func84,ntmps84
 go_upto_region 3 with fail
 rw[← HW0.o];obtain⟨y0,y1,y2,y3,y4,y5,y6,y7,y8,y9,yy⟩:=(HL.o.below HB0.o).cells;obtain⟨b0,b1,b2⟩:=Qy HBX.o
 have hqA:∀ d os,Calls prog 79 #[.slice Av e.op.length cv,.string ⟨(U.encs C.seen).toArray⟩] (grow (redrawn W0 d) os) fun e' w''=>e'=.returned (.tuple #[.string ⟨(U.encs (rap Z C.seen)).toArray⟩,.int .i64 0])∧∃ p:Regrown,w''=grow (redrawn W0 p.d) p.os:=fun d os =>
  Calls.regrown_of (Xx (HX.o.sl.below (Qb HB0.o (below_regrown W0 d os))) HF.o.op HK.o.all (by have:=HSEEN.o;omega) (by have:=HSEEN.o;omega))
 have k3:=cell_regrown y3;have kb2:=cell_regrown b2;refine wp_region_quiet_below (by kernel_rfl) (by kernel_rfl) ?_
 repeat (quiet_step (exact hqA _ _))
 refine wpQuiet_nil ?_;rintro _ ⟨⟨dq,oq⟩,rfl⟩;have hb1:=Qb HB0.o (below_regrown W0 dq oq);have hbx1:=HBX.o.below (below_regrown W0 dq oq) HBX.o.lt;generalize grow (redrawn W0 dq) oq=w1 at hb1 hbx1 ⊢;have HB1:=Hm hb1;clear hqA k3 kb2 y0 y1 y2 y3 y4 y5 y6 y7 y8 y9 yy b0 b1 b2 z0 z1 z2 z3 z4 z5 z6 z7 z8 z9 zz;obtain⟨z0,z1,z2,z3,z4,z5,z6,z7,z8,z9,zz⟩:=(HL.o.below hb1).cells;obtain⟨b0,b1,b2⟩:=Qy hbx1;have HBX1:=Hm hbx1;have lt1:a<w1.heap.size:=Wal lt hb1.size;clear hb1 hbx1;go_upto_region 6 with fail
 go_cut [9] from 35 to 57 (fun sv wx=>sv=.bool true∧Below w1.heap.size w1 wx)
 case first =>
  have hq1:(e.who == C.who)=true:=by rw[HO.o.1];exact beq_self_eq_true _
  have hid:(e.id == C.id)=true:=by rw[HO.o.2.2];exact beq_self_eq_true _
  rw[HO.o.2.1] at z8;go_quiet (fail)
  go_wp2
  go_meet
  exact⟨rfl,Qh nq (Wac _ _)⟩
 case rest =>
  obtain⟨rfl,hb2⟩:=hcut;obtain⟨w2,rfl⟩:∃ W,W=wc:=⟨_,rfl⟩;have hx2:=Qb HB1.o hb2;have HB2:=Hm hx2;clear z0 z1 z2 z3 z4 z5 z6 z7 z8 z9 zz b0 b1 b2;obtain⟨z0,z1,z2,z3,z4,z5,z6,z7,z8,z9,zz⟩:=(HL.o.below hx2).cells;have lt2:a<w2.heap.size:=Wal lt hx2.size;clear hb2 hx2 lt1;go_upto_region 8 with fail
  rw[← HOP.o] at z6
  have hqA:∀ d os,Calls prog 79 #[.slice Aw e.op.length cw,.string ⟨(U.encs C.seen).toArray⟩] (grow (redrawn w2 d) os) fun e' w''=>e'=.returned (.tuple #[.string ⟨(U.encs (rap Z C.seen)).toArray⟩,.int .i64 0])∧∃ p:Regrown,w''=grow (redrawn w2 p.d) p.os:=fun d os =>
   Calls.regrown_of (Xx (HWS.o.below (Qb HB2.o (below_regrown w2 d os))) HF.o.op HK.o.all (by have:=HSEEN.o;omega) (by have:=HSEEN.o;omega))
  have k3:=cell_regrown z3;have k6:=cell_regrown z6;refine wp_region_quiet_below (by kernel_rfl) (by kernel_rfl) ?_
  repeat (quiet_step (exact hqA _ _))
  refine wpQuiet_nil ?_;rintro _ ⟨⟨dq2,oq2⟩,rfl⟩;have hx3:=Qb HB2.o (below_regrown w2 dq2 oq2);generalize grow (redrawn w2 dq2) oq2=w3 at hx3 ⊢;clear HB2 HBX1 HB1 HB0 HBX HW0 z0 z1 z2 z3 z4 z5 z6 z7 z8 z9 zz lt2 hqA k3 k6;have HB3:=Hm hx3;obtain⟨z0,z1,z2,z3,z4,z5,z6,z7,z8,z9,zz⟩:=(HL.o.below hx3).cells;have fz:=(HL.o.below hx3).blk.frozen;have lt3:=(HL.o.below hx3).blk.lt;dsimp only at fz lt3;have HBK:Hd (Blk w3 a 99 _):=⟨(HL.o.below hx3).blk⟩;clear hx3;go_upto_region 14 with fail
  have hn:=(HBK.o.set_ 3 (.string ⟨(U.encs (rap Z C.seen)).toArray⟩)).set_ 4 (.int .i64 ((C.rev:Int)+1));have hO:Only (fun k=>k=a) w3 ((w3.setCell ⟨a,3,none⟩ (.string ⟨(U.encs (rap Z C.seen)).toArray⟩)).setCell ⟨a,4,none⟩ (.int .i64 ((C.rev:Int)+1))):=((Only.refl (fun k=>k=a) w3).setCell (p:=⟨a,3,none⟩) (.inl rfl) _).setCell (p:=⟨a,4,none⟩) (.inl rfl) _;generalize (w3.setCell ⟨a,3,none⟩ (.string ⟨(U.encs (rap Z C.seen)).toArray⟩)).setCell ⟨a,4,none⟩ (.int .i64 ((C.rev:Int)+1))=w4 at hn hO ⊢;clear z0 z1 z2 z3 z4 z5 z6 z7 z8 z9 zz fz lt3;have HN:=Hm hn;have HO4:=Hm hO;obtain⟨z0,z1,z2,z3,z4,z5,z6,z7,z8,z9,zz⟩:=Zj hn;have fz:=hn.frozen;have lt4:=hn.lt;clear hn hO
  go_cut [] from 89 to 108 (fun wx=>wx=((((w4.setCell ⟨a,6,none⟩ (.slice At C.waits.length ct)).setCell ⟨a,8,none⟩ (.bool C.more)).setCell ⟨a,7,none⟩ (.slice none 0 0)).setCell ⟨a,9,none⟩ (.bool false)).drew)
  case first =>
   go_region
   all_goals
    go_wp2
    go_meet
    rfl
  case rest =>
   subst hcut;have hn:=(((HN.o.set_ 6 (.slice At C.waits.length ct)).set_ 8 (.bool C.more)).set_ 7 (.slice none 0 0)).set_ 9 (.bool false);have hO:Only (fun k=>k=a) w4 ((((w4.setCell ⟨a,6,none⟩ (.slice At C.waits.length ct)).setCell ⟨a,8,none⟩ (.bool C.more)).setCell ⟨a,7,none⟩ (.slice none 0 0)).setCell ⟨a,9,none⟩ (.bool false)):=((((Only.refl (fun k=>k=a) w4).setCell (p:=⟨a,6,none⟩) (.inl rfl) _).setCell (p:=⟨a,8,none⟩) (.inl rfl) _).setCell (p:=⟨a,7,none⟩) (.inl rfl) _).setCell (p:=⟨a,9,none⟩) (.inl rfl) _;have hn:=hn.below (Qe (Wac _ _)) hn.lt;have hO:=hO.drew;generalize ((((w4.setCell ⟨a,6,none⟩ (.slice At C.waits.length ct)).setCell ⟨a,8,none⟩ (.bool C.more)).setCell ⟨a,7,none⟩ (.slice none 0 0)).setCell ⟨a,9,none⟩ (.bool false)).drew=w5 at hn hO ⊢;clear z0 z1 z2 z3 z4 z5 z6 z7 z8 z9 zz fz lt4;have HN5:=Hm hn;have HO5:=Hm hO;obtain⟨z0,z1,z2,z3,z4,z5,z6,z7,z8,z9,zz⟩:=Zj hn;have fz:=hn.frozen;have lt5:=hn.lt;clear hn hO
   cases hm:C.more
   ·rw[hm] at z8;have HM:=Hm hm;clear hm;go_wp2_with fail;go_ret;have hn:=HN5.o;rw[HM.o] at hn;refine QE.mine (b:=false) (i0:=C.id) HL.o HB3.o HM.o (by unfold CV.own;dsimp only;rw[HM.o];rfl) (HO4.o.trans HO5.o) ?_;rw[HSN.o];exact hn
   ·rw[hm] at z8;have HM:=Hm hm;have HI:=HID.o;clear hm;go_wp2_with fail;go_ret;have hn:=HN5.o.set_ 5 (.int .i64 (C.id+1));rw[HM.o] at hn;refine QE.mine (b:=true) (i0:=C.id+1) HL.o HB3.o HM.o (by unfold CV.own;dsimp only;rw[HM.o];rfl) ((HO4.o.trans HO5.o).setCell (p:=⟨a,5,none⟩) (.inl rfl) (.int .i64 (C.id+1))) ?_;rw[HSN.o];exact hn
end
section
open Go.RowKit Go.Sort
theorem Qni {w:World}{F:Nat→Prop}{c:RCP}{C:CV}{e:EN}{v:Value}{T:Int}{Z:List (RU Int)}(h:RCliR w F c C)(hk:COk T C)(_hT:T≤1000000)(hrv:C.rev≤100000)(hx:OpO F w v e.op)(hf:Fit_ C e Z)(ho:¬ C.isOwn e) :
  Calls prog 84 #[.pointer (some ⟨c.a,0,none⟩),.int .i64 (C.rev:Int),.agg #[.int .i64 e.who,.int .i64 e.id,v]] w (QE F c (.int .i64 0) (C.other e) w):=by
 obtain⟨W0,hW0⟩:∃ W,W=w.alloc (.cells #[.int .i64 e.who,.int .i64 e.id,v] 94):=⟨_,rfl⟩;have hb0:Below w.heap.size w W0:=by rw[hW0];exact Qa (Wac _ _) _
 have hbx:Blk W0 w.heap.size 94 #[.int .i64 e.who,.int .i64 e.id,v]:=by rw[hW0];exact Blk.new _ _ _
 have HSEEN:Hd (bl C.seen≤2000∧Qc e.op≤2000∧e.op.length≤4000):=⟨by
  have:=hf.op.bounds;have:=hf.sz;have:=hk.sz
  have:=ZW (fun p hp=>(hf.op.arg p hp).1);have:=hf.op.sizes.1
  omega⟩
 obtain⟨Av,cv,hv,-⟩:=hx.sl;subst hv;obtain⟨a,vw,vt⟩:=c;obtain⟨Aw,cw,hvw,-⟩:=h.way.sl;obtain⟨At,ct,hvt,-⟩:=h.wts.sl;dsimp only at hvw hvt ⊢;subst hvw hvt;have HW0:=Hm hW0;have HB0:=Hm hb0;have HBX:=Hm hbx;have HL:=Hm h;have HX:=Hm hx;have HF:=Hm hf;have HO:=Hm ho;have HK:=Hm hk;obtain⟨z0,z1,z2,z3,z4,z5,z6,z7,z8,z9,zz⟩:=h.cells;have lt:=h.blk.lt;dsimp only at lt;clear hb0 hbx h hx hf ho hk hW0;go_enter func84,ntmps84
 go_upto_region 3 with fail
 rw[← HW0.o];obtain⟨y0,y1,y2,y3,y4,y5,y6,y7,y8,y9,yy⟩:=(HL.o.below HB0.o).cells;obtain⟨b0,b1,b2⟩:=Qy HBX.o
 have hqA:∀ d os,Calls prog 79 #[.slice Av e.op.length cv,.string ⟨(U.encs C.seen).toArray⟩] (grow (redrawn W0 d) os) fun e' w''=>e'=.returned (.tuple #[.string ⟨(U.encs (rap Z C.seen)).toArray⟩,.int .i64 0])∧∃ p:Regrown,w''=grow (redrawn W0 p.d) p.os:=fun d os =>
  Calls.regrown_of (Xx (HX.o.sl.below (Qb HB0.o (below_regrown W0 d os))) HF.o.op HK.o.all (by have:=HSEEN.o;omega) (by have:=HSEEN.o;omega))
 have k3:=cell_regrown y3;have kb2:=cell_regrown b2;refine wp_region_quiet_below (by kernel_rfl) (by kernel_rfl) ?_
 repeat (quiet_step (exact hqA _ _))
 refine wpQuiet_nil ?_;rintro _ ⟨⟨dq,oq⟩,rfl⟩;have hb1:=Qb HB0.o (below_regrown W0 dq oq);have hbx1:=HBX.o.below (below_regrown W0 dq oq) HBX.o.lt;generalize grow (redrawn W0 dq) oq=w1 at hb1 hbx1 ⊢;have HB1:=Hm hb1;clear hqA k3 kb2 y0 y1 y2 y3 y4 y5 y6 y7 y8 y9 yy b0 b1 b2 z0 z1 z2 z3 z4 z5 z6 z7 z8 z9 zz;obtain⟨z0,z1,z2,z3,z4,z5,z6,z7,z8,z9,zz⟩:=(HL.o.below hb1).cells;obtain⟨b0,b1,b2⟩:=Qy hbx1;have HBX1:=Hm hbx1;have lt1:a<w1.heap.size:=Wal lt hb1.size;clear hb1 hbx1;go_upto_region 6 with fail
 go_cut [9] from 35 to 57 (fun sv wx=>sv=.bool false∧Below w1.heap.size w1 wx)
 case first =>
  by_cases h1:e.who=C.who
  ·have hq1:(e.who == C.who)=true:=by rw[h1];exact beq_self_eq_true _
   cases hh:C.has
   ·rw[hh] at z8;clear h1 hh;go_quiet (fail)
    go_wp2
    go_meet
    exact⟨rfl,Qh nq (Wac _ _)⟩
   ·have hid:(e.id == C.id)=false:=by rw[Waf];exact fun h2=>HO.o ⟨h1,hh,h2⟩
    rw[hh] at z8;clear h1 hh;go_quiet (fail)
    go_wp2
    go_meet
    exact⟨rfl,Qh nq (Wac _ _)⟩
  ·have hq1:(e.who == C.who)=false:=by rw[Waf];exact h1
   clear h1;go_quiet (fail)
   go_wp2
   go_meet
   exact⟨rfl,Qh nq (Wac _ _)⟩
 case rest =>
  obtain⟨rfl,hb2⟩:=hcut;obtain⟨w2,rfl⟩:∃ W,W=wc:=⟨_,rfl⟩;have hx2:=Qb HB1.o hb2;have hbx2:=HBX1.o.below hb2 HBX1.o.lt;have HB2:=Hm hx2;have HBX2:=Hm hbx2;clear z0 z1 z2 z3 z4 z5 z6 z7 z8 z9 zz b0 b1 b2;obtain⟨z0,z1,z2,z3,z4,z5,z6,z7,z8,z9,zz⟩:=(HL.o.below hx2).cells;have fz:=(HL.o.below hx2).blk.frozen;have lt2:=(HL.o.below hx2).blk.lt;dsimp only at fz lt2;have HBK:Hd (Blk w2 a 99 _):=⟨(HL.o.below hx2).blk⟩;clear hb2 hx2 hbx2 lt1;go_upto_region 18 with fail
  have hn:=(HBK.o.set_ 3 (.string ⟨(U.encs (rap Z C.seen)).toArray⟩)).set_ 4 (.int .i64 ((C.rev:Int)+1));have hO:Only (fun k=>k=a) w2 ((w2.setCell ⟨a,3,none⟩ (.string ⟨(U.encs (rap Z C.seen)).toArray⟩)).setCell ⟨a,4,none⟩ (.int .i64 ((C.rev:Int)+1))):=((Only.refl (fun k=>k=a) w2).setCell (p:=⟨a,3,none⟩) (.inl rfl) _).setCell (p:=⟨a,4,none⟩) (.inl rfl) _;generalize (w2.setCell ⟨a,3,none⟩ (.string ⟨(U.encs (rap Z C.seen)).toArray⟩)).setCell ⟨a,4,none⟩ (.int .i64 ((C.rev:Int)+1))=w3 at hn hO ⊢;have hbx3:=HBX2.o.only hO (fun e=>by have:=HL.o.blk.lt;dsimp only at this;omega);have hO3:Only (fun k=>k=a) w w3:=(Only.of_below HB2.o).trans hO;clear HB2 HBX2 HB1 HBX1 HB0 HBX HW0 z0 z1 z2 z3 z4 z5 z6 z7 z8 z9 zz fz lt2 hO;have HN3:=Hm hn;have HO3:=Hm hO3;have HAF:Hd (∀ k,k=a→F k):=⟨fun k e=>by subst e;exact HL.o.sub _ rfl⟩;obtain⟨⟨V,hV,hpv⟩,hpa,-,-⟩:=HK.o.over_ HF.o;have HV:=Hm (Wao hV hpv);have HPA:=Hm hpa;have hl:(C.other e).doc=rap V C.doc:=ZF hV HK.o.doc_.1;have HDOC:=Hm hl;have HDA:=Hm HK.o.doc_;have HSN:=Hm (HK.o.over_ HF.o).2.2.2;have hxs:=(HX.o.only (F':=F) (hO3.mono (fun k _=>HAF.o k)) (Grow.refl _ _)).sl;have hws:=(HL.o.way.only (F':=F) (hO3.mono (fun k _=>HAF.o k)) (Grow.refl _ _));have hts:=(HL.o.wts.only (F':=F) (hO3.mono (fun k _=>HAF.o k)) (Grow.refl _ _));dsimp only at hws hts;have HXS:=Hm hxs;have HWS:=Hm hws;have HTS:=Hm hts;obtain⟨b0,b1,b2⟩:=Qy hbx3;obtain⟨z0,z1,z2,z3,z4,z5,z6,z7,z8,z9,zz⟩:=Zj hn;have fz:=hn.frozen;have lt3:=hn.lt;clear hpa hV hpv hl hxs hws hts hO3 hbx3
  cases hh:C.has
  ·have hm:=(HK.o.no hh).1;rw[hh] at z8;rw[hm] at z9;have hover:C.over e=e.op:=by unfold CV.over CV.past;rw[hm,hh];rfl
   have hway:(C.other e).way=C.way:=by unfold CV.other;dsimp only;rw[hh];rfl
   have hwts:(C.other e).waits=C.waits:=by unfold CV.other;dsimp only;rw[hm];rfl
   have HH:=Hm (Wao hway hwts);have HVO:=Hm HV.o;rw[hover] at HVO;have HAP:=Hm (Xx HXS.o HVO.o.1 HDA.o.1 (by have:=HDA.o.2;omega) (by have:=HSEEN.o;omega));clear hh hm hover hway hwts hn;go_wp2_with (go_at_call 79;refine HAP.o.mono ?_;rintro e' w7 ⟨rfl,hb7⟩;have hn7:=HN3.o.below hb7 HN3.o.lt;have HN7:=Hm hn7;have HB7:=Hm hb7;obtain⟨-,-,y2,-,-,-,-,-,-,-,-⟩:=Zj hn7;have yf:=hn7.frozen;have yl:=hn7.lt;clear hb7 hn7)
   go_ret;have hO7:Only (fun k=>k=a) w (w7.setCell ⟨a,2,none⟩ (.string ⟨(U.encs (rap V C.doc)).toArray⟩)):=(HO3.o.trans (Only.of_below HB7.o)).setCell (p:=⟨a,2,none⟩) (.inl rfl) _;have hO8:Only (fun k=>k=a) w7 (w7.setCell ⟨a,2,none⟩ (.string ⟨(U.encs (rap V C.doc)).toArray⟩)):=(Only.refl (fun k=>k=a) w7).setCell (p:=⟨a,2,none⟩) (.inl rfl) _;refine QE.turn (C':=C.other e) (vw:=.slice Aw C.way.length cw) (vt:=.slice At C.waits.length ct) HL.o (hO7.mono (fun k _ e=>e)) ?_ ?_ ?_
   ·have hz:=HN7.o.set_ 2 (.string ⟨(U.encs (rap V C.doc)).toArray⟩);unfold RCP.cells;rw[HDOC.o,HSN.o];exact hz
   ·rw[HH.o.1];exact HL.o.way.only (hO7.mono (fun k _=>HAF.o k)) (Grow.refl _ _)
   ·rw[HH.o.2];exact HL.o.wts.only (hO7.mono (fun k _=>HAF.o k)) (Grow.refl _ _)
  ·have hpast:C.past e=trl true e.op C.way:=by unfold CV.past;rw[hh];rfl
   have hway:(C.other e).way=trl false C.way e.op:=by unfold CV.other;dsimp only;rw[hh];rfl
   obtain⟨X,hX,hpw,hn0,hy0⟩:=HK.o.yes hh;obtain⟨VP,hVP,hpp⟩:=HPA.o X hh hX;rw[hpast] at hVP hpp;have HXP:=Hm (Wao hX (Wao hpw (Wao hVP hpp)));have HBX:Hd (bl (rap X C.seen)≤4000):=⟨by have:=hX.bounds;have:=HSEEN.o.1;omega⟩;have HFL:Hd (∀ j,F j→j<w3.heap.size):=⟨fun j hj=>Wal (HL.o.flt j hj) HO3.o.size⟩;rw[hh] at z8;have HT1:=Hm (Qbk (first:=false) (w:=w3) HWS.o.sl HXS.o HXP.o.1 HF.o.op (by have:=HSEEN.o;omega) (by have:=HXP.o.2.1;omega) (by have:=HSEEN.o;omega));have HT2:=Hm (fun W (hb:Below w3.heap.size w3 W)=>Qbk (first:=true) (w:=W) (HXS.o.below hb) (HWS.o.sl.below hb) HF.o.op HXP.o.1 (by have:=HSEEN.o;omega) (by have:=HSEEN.o;omega) (by have:=HXP.o.2.1;omega));clear hX hpw hn0 hVP hpp hn;go_wp2_with fail;refine HT1.o.mono ?_;rintro e' w4 ⟨hb4,v4,rfl,hs4,hf4⟩;have HS4:=Hm hs4;have HF4:=Hm hf4;have HB4:=Hm hb4;obtain⟨A4,c4,rfl,-⟩:=hs4;have hn4:=HN3.o.below hb4 HN3.o.lt;have HN4:=Hm hn4;clear z0 z1 z2 z3 z4 z5 z6 z7 z8 z9 zz fz lt3 b0 b1 b2 hb4 hf4;obtain⟨z0,z1,z2,z3,z4,z5,z6,z7,z8,z9,zz⟩:=Zj hn4;clear hn4;go_wp2_with fail;refine (HT2.o w4 HB4.o).mono ?_;rintro e' w5 ⟨hb5,v5,rfl,hs5,hf5⟩;have HS5:=Hm hs5;have HF5:=Hm hf5;have HC5:=Hm hb5;obtain⟨A5,c5,rfl,-⟩:=hs5;have hn5:=HN4.o.below hb5 HN4.o.lt;have HN5:=Hm hn5;clear z0 z1 z2 z3 z4 z5 z6 z7 z8 z9 zz hb5 hf5;obtain⟨z0,z1,z2,z3,z4,z5,z6,z7,z8,z9,zz⟩:=Zj hn5;have fz:=hn5.frozen;have lt5:=hn5.lt;clear hn5;have HB5:Hd (Below w3.heap.size w3 w5):=⟨Qb HB4.o HC5.o⟩;go_upto_region 23 with fail
   have hn6:=HN5.o.set_ 6 (.slice A4 (trl false C.way e.op).length c4);have hO6:Only (fun k=>k=a) w5 (w5.setCell ⟨a,6,none⟩ (.slice A4 (trl false C.way e.op).length c4)):=(Only.refl (fun k=>k=a) w5).setCell (p:=⟨a,6,none⟩) (.inl rfl) _;generalize w5.setCell ⟨a,6,none⟩ (.slice A4 (trl false C.way e.op).length c4)=w6 at hn6 hO6 ⊢;have HO6:Hd (Only (fun k=>k=a) w w6):=⟨(HO3.o.trans (Only.of_below HB5.o)).trans hO6⟩;have HN6:=Hm hn6;have HW6:Hd (OpO F w6 (.slice A4 (trl false C.way e.op).length c4) (trl false C.way e.op)):=⟨OpO.fresh HFL.o (Wak _) (HS4.o.below HC5.o) HF4.o hO6 (HAF.o _ rfl)⟩;have hv5:OpO F w6 (.slice A5 (trl true e.op C.way).length c5) (trl true e.op C.way):=OpO.fresh HFL.o HB4.o.size HS5.o HF5.o hO6 (HAF.o _ rfl);have HV5:=Hm hv5;have HT6:=Hm ((HTS.o.below HB5.o (Grow.refl _ _)).only (F':=F) (hO6.mono (fun k _=>HAF.o k)) (Grow.refl _ _));clear z0 z1 z2 z3 z4 z5 z6 z7 z8 z9 zz fz lt5 hO6 hv5;obtain⟨z0,z1,z2,z3,z4,z5,z6,z7,z8,z9,zz⟩:=Zj hn6;have fz:=hn6.frozen;have lt6:=hn6.lt;clear hn6
   cases hm:C.more
   ·rw[hm] at z9;have hover:C.over e=C.past e:=by unfold CV.over;rw[hm];rfl
    rw[hpast] at hover;have hwts:(C.other e).waits=C.waits:=by unfold CV.other;dsimp only;rw[hm];rfl
    have HH:=Hm (Wao hway hwts);have HVO:=Hm HV.o;rw[hover] at HVO;have HAP:=Hm (Xx HV5.o.sl HVO.o.1 HDA.o.1 (by have:=HDA.o.2;omega) (by have:=HSEEN.o;have:=HVO.o.2;omega));clear hh hm hpast hway hover hwts hy0;go_wp2_with (go_at_call 79;refine HAP.o.mono ?_;rintro e' w7 ⟨rfl,hb7⟩;have hn7:=HN6.o.below hb7 HN6.o.lt;have HN7:=Hm hn7;have HB7:=Hm hb7;obtain⟨-,-,y2,-,-,-,-,-,-,-,-⟩:=Zj hn7;have yf:=hn7.frozen;have yl:=hn7.lt;clear hb7 hn7)
    go_ret;have hO7:Only (fun k=>k=a) w (w7.setCell ⟨a,2,none⟩ (.string ⟨(U.encs (rap V C.doc)).toArray⟩)):=(HO6.o.trans (Only.of_below HB7.o)).setCell (p:=⟨a,2,none⟩) (.inl rfl) _;have hO8:Only (fun k=>k=a) w7 (w7.setCell ⟨a,2,none⟩ (.string ⟨(U.encs (rap V C.doc)).toArray⟩)):=(Only.refl (fun k=>k=a) w7).setCell (p:=⟨a,2,none⟩) (.inl rfl) _;refine QE.turn (C':=C.other e) (vw:=.slice A4 (trl false C.way e.op).length c4) (vt:=.slice At C.waits.length ct) HL.o (hO7.mono (fun k _ e=>e)) ?_ ?_ ?_
    ·have hz:=HN7.o.set_ 2 (.string ⟨(U.encs (rap V C.doc)).toArray⟩);unfold RCP.cells;rw[HDOC.o,HSN.o];exact hz
    ·rw[HH.o.1];exact (HW6.o.below HB7.o (Grow.refl _ _)).only (hO8.mono (fun k _=>HAF.o k)) (Grow.refl _ _)
    ·rw[HH.o.2];exact (HT6.o.below HB7.o (Grow.refl _ _)).only (hO8.mono (fun k _=>HAF.o k)) (Grow.refl _ _)
   ·rw[hm] at z9;have hover:C.over e=trl true (C.past e) C.waits:=by unfold CV.over;rw[hm];rfl
    have hwts:(C.other e).waits=trl false C.waits (C.past e):=by unfold CV.other;dsimp only;rw[hm];rfl
    rw[hpast] at hover hwts;obtain⟨Y,hY,hpy,-⟩:=hy0 hm;have HY:=Hm (Wao hY hpy);have HH:=Hm (Wao hway hwts);have HVO:=Hm HV.o;rw[hover] at HVO;have HT3:=Hm (Qbk (first:=false) (w:=w6) HT6.o.sl HV5.o.sl HY.o.1 HXP.o.2.2.1 (by have:=HBX.o;omega) (by have:=HY.o.2;omega) (by have:=HXP.o.2.2.2;have:=HSEEN.o;omega));have HT4:=Hm (fun W (hb:Below w6.heap.size w6 W)=>Qbk (first:=true) (w:=W) (HV5.o.sl.below hb) (HT6.o.sl.below hb) HXP.o.2.2.1 HY.o.1 (by have:=HBX.o;omega) (by have:=HXP.o.2.2.2;have:=HSEEN.o;omega) (by have:=HY.o.2;omega));have HPL:Hd (Qc (trl true (trl true e.op C.way) C.waits)≤100000):=⟨by have:=HVO.o.2;have:=HSEEN.o;omega⟩;have HF6:Hd (∀ j,F j→j<w6.heap.size):=⟨fun j hj=>Wal (HL.o.flt j hj) HO6.o.size⟩;clear hh hm hpast hway hover hwts hy0 hY hpy;go_wp2_with fail;refine HT3.o.mono ?_;rintro e' w7 ⟨hb7,v7,rfl,hs7,hf7⟩;have HS7:=Hm hs7;have HF7:=Hm hf7;have HB7:=Hm hb7;obtain⟨A7,c7,rfl,-⟩:=hs7;have hn7:=HN6.o.below hb7 HN6.o.lt;have HN7:=Hm hn7;clear z0 z1 z2 z3 z4 z5 z6 z7 z8 z9 zz fz lt6 hb7 hf7;obtain⟨z0,z1,z2,z3,z4,z5,z6,z7,z8,z9,zz⟩:=Zj hn7;clear hn7;go_wp2_with fail;refine (HT4.o w7 HB7.o).mono ?_;rintro e' w8 ⟨hb8,v8,rfl,hs8,hf8⟩;have HS8:=Hm hs8;have HC8:=Hm hb8;obtain⟨A8,c8,rfl,-⟩:=id hs8;have HF8:=Hm hf8;have hn8:=HN7.o.below hb8 HN7.o.lt;have HN8:=Hm hn8;clear z0 z1 z2 z3 z4 z5 z6 z7 z8 z9 zz hb8 hf8 hs8;obtain⟨z0,z1,z2,z3,z4,z5,z6,z7,z8,z9,zz⟩:=Zj hn8;have fz:=hn8.frozen;have lt8:=hn8.lt;clear hn8;have HB8:Hd (Below w6.heap.size w6 w8):=⟨Qb HB7.o HC8.o⟩;go_upto_region 27 with fail
    have hn9:=HN8.o.set_ 7 (.slice A7 (trl false C.waits (trl true e.op C.way)).length c7);have hO9:Only (fun k=>k=a) w8 (w8.setCell ⟨a,7,none⟩ (.slice A7 (trl false C.waits (trl true e.op C.way)).length c7)):=(Only.refl (fun k=>k=a) w8).setCell (p:=⟨a,7,none⟩) (.inl rfl) _;generalize w8.setCell ⟨a,7,none⟩ (.slice A7 (trl false C.waits (trl true e.op C.way)).length c7)=w9 at hn9 hO9 ⊢;have HO9:Hd (Only (fun k=>k=a) w w9):=⟨(HO6.o.trans (Only.of_below HB8.o)).trans hO9⟩;have HN9:=Hm hn9;have HT9:Hd (OpO F w9 (.slice A7 (trl false C.waits (trl true e.op C.way)).length c7) (trl false C.waits (trl true e.op C.way))):=⟨OpO.fresh HF6.o (Wak _) (HS7.o.below HC8.o) HF7.o hO9 (HAF.o _ rfl)⟩;have HV9:Hd (OpO F w9 (.slice A8 (trl true (trl true e.op C.way) C.waits).length c8) (trl true (trl true e.op C.way) C.waits)):=⟨OpO.fresh HF6.o HB7.o.size HS8.o HF8.o hO9 (HAF.o _ rfl)⟩;have HW9:=Hm ((HW6.o.below HB8.o (Grow.refl _ _)).only (F':=F) (hO9.mono (fun k _=>HAF.o k)) (Grow.refl _ _));clear z0 z1 z2 z3 z4 z5 z6 z7 z8 z9 zz fz lt8 hO9;obtain⟨z0,z1,z2,z3,z4,z5,z6,z7,z8,z9,zz⟩:=Zj hn9;have fz:=hn9.frozen;have lt9:=hn9.lt;clear hn9;have HAP:=Hm (Xx HV9.o.sl HVO.o.1 HDA.o.1 (by have:=HDA.o.2;omega) HPL.o);go_wp2_with (go_at_call 79;refine HAP.o.mono ?_;rintro e' w10 ⟨rfl,hb10⟩;have hn10:=HN9.o.below hb10 HN9.o.lt;have HN10:=Hm hn10;have HB10:=Hm hb10;obtain⟨-,-,y2,-,-,-,-,-,-,-,-⟩:=Zj hn10;have yf:=hn10.frozen;have yl:=hn10.lt;clear hb10 hn10)
    go_ret;have hO7:Only (fun k=>k=a) w (w10.setCell ⟨a,2,none⟩ (.string ⟨(U.encs (rap V C.doc)).toArray⟩)):=(HO9.o.trans (Only.of_below HB10.o)).setCell (p:=⟨a,2,none⟩) (.inl rfl) _;have hO8:Only (fun k=>k=a) w10 (w10.setCell ⟨a,2,none⟩ (.string ⟨(U.encs (rap V C.doc)).toArray⟩)):=(Only.refl (fun k=>k=a) w10).setCell (p:=⟨a,2,none⟩) (.inl rfl) _;refine QE.turn (C':=C.other e) (vw:=.slice A4 (trl false C.way e.op).length c4) (vt:=.slice A7 (trl false C.waits (trl true e.op C.way)).length c7) HL.o (hO7.mono (fun k _ e=>e)) ?_ ?_ ?_
    ·have hz:=HN10.o.set_ 2 (.string ⟨(U.encs (rap V C.doc)).toArray⟩);unfold RCP.cells;rw[HDOC.o,HSN.o];exact hz
    ·rw[HH.o.1];exact (HW9.o.below HB10.o (Grow.refl _ _)).only (hO8.mono (fun k _=>HAF.o k)) (Grow.refl _ _)
    ·rw[HH.o.2];exact (HT9.o.below HB10.o (Grow.refl _ _)).only (hO8.mono (fun k _=>HAF.o k)) (Grow.refl _ _)
end
section
open Go.RowKit Go.Sort
theorem Qu4 {w:World}{F:Nat→Prop}{c:RCP}{C:CV}{e:EN}{v:Value}{T rev:Int}(h:RCliR w F c C)(hk:COk T C)(hT:T≤1000000)(hrv:C.rev≤100000)(hx:OpO F w v e.op)(hf:rev=C.rev→∃ Z,Fit_ C e Z) :
  Calls prog 84 #[.pointer (some ⟨c.a,0,none⟩),.int .i64 rev,.agg #[.int .i64 e.who,.int .i64 e.id,v]] w (QE F c (.int .i64 0) (C.take rev e) w):=by
 by_cases hr:rev=C.rev
 ·subst hr;obtain⟨Z,hZ⟩:=hf rfl
  by_cases ho:C.isOwn e
  ·have e1:C.take C.rev e=C.own e:=by unfold CV.take;rw[if_neg (fun h=>h rfl),if_pos ho]
   rw[e1];exact Que h hk hT hrv hx hZ ho
  ·have e1:C.take C.rev e=C.other e:=by unfold CV.take;rw[if_neg (fun h=>h rfl),if_neg ho]
   rw[e1];exact Qni h hk hT hrv hx hZ ho
 ·have e1:C.take rev e=C:=by unfold CV.take;rw[if_pos hr]
  rw[e1];exact Ql5 h hr
end
section
open Go.RowKit Go.Sort
theorem Qmi {a b:List PT}{X Y:List (RU Int)}{R:List Int}{va vb:Value}{w:World}(ha:Sl w 3 va a.length (opv a))(hb:Sl w 3 vb b.length (opv b))(hX:OpR a X R)(hY:OpR b Y (rap X R))(hR:bl R≤10000)(hpa:Qc a≤10000)(hpb:Qc b≤10000) :
  Calls prog 80 #[va,vb] w (Qee (cml a b) w):=by
 have h2:bl (rap X R)≤20000:=by have:=hX.bounds;omega
 refine (Qta ha hb (Xb hX (by omega) (by omega)) (Xb hY h2 (by omega))).mono ?_;rintro e w' ⟨⟨hb',v,rfl,h0,-⟩,hf⟩;have c1:=Xv hX.arg hX.sizes.1;have c2:=Xv hY.arg hY.sizes.1;have e1:=hX.sizes.1;have e2:=hX.sizes.2;have e3:=hY.sizes.1;have w1:wrap64 (bl R:Int)=bl R:=Zl (by omega) (by omega);have w2:wrap64 (bl (rap X R):Int)=bl (rap X R):=Zl (by omega) (by omega)
 have hc:cmc a b=0:=by
  unfold cmc QF;rw[e1,e3,e2,w1,w2,c1,c2];simp
 exact⟨hb',v,by rw[hc],h0 hc,hf _ _ rfl⟩
end
section
open Go.RowKit Go.Sort
theorem QE.gen {w w6 w8:World}{F:Nat→Prop}{C C':CV}{a:Nat}{vw vt vw' vt' ev:Value}(h:RCliR w F ⟨a,vw,vt⟩ C)(hb6:Below w.heap.size w w6)(ho:Only (fun k=>k=a) w6 w8)(h1:OpO F w8 vw' C'.way)(h2:OpO F w8 vt' C'.waits)(hb:Blk w8 a 99 (RCP.cells ⟨a,vw',vt'⟩ C')) :
  QE F ⟨a,vw,vt⟩ ev C' w (.returned ev) w8:=by
 obtain⟨c',a1,a2,a3,a4⟩:=QE.turn (ev:=ev) (C':=C') (h.below hb6) (ho.mono (fun k _ e=>e)) hb h1 h2
 exact⟨c',a1,(Only.of_below hb6).trans a2,a3,a4⟩
section
attribute [local go_sem] Qr
theorem Qqf {w:World}{F:Nat→Prop}{c:RCP}{C:CV}{T:Int}{l:List PT}{v:Value}(h:RCliR w F c C)(hk:COk T C)(hT:T≤1000000)(hx:OpO F w v l)(hn:l.length≤100000) :
  Calls prog 36 #[.pointer (some ⟨c.a,0,none⟩),v] w (QE F c (.int .i64 (C.edit l).1) (C.edit l).2 w):=by
 obtain⟨a,vw,vt⟩:=c;obtain⟨Aw,cw,hvw,-⟩:=h.way.sl;obtain⟨At,ct,hvt,-⟩:=h.wts.sl;dsimp only at hvw hvt ⊢;subst hvw hvt;obtain⟨Av,cv,hv,-⟩:=hx.sl;subst hv;have HL:=Hm h;have HK:=Hm hk;have HX:=Hm hx;have HD:=Hm hk.doc_;have lt:=h.blk.lt;dsimp only at lt;clear h hk hx
 by_cases h60:60<l.length
 ·have HE:Hd (C.edit l=(4,C)):=⟨by unfold CV.edit;rw[if_pos (.inl h60)]⟩;have hi:(60:Int)<(l.length:Int):=by omega
  go_enter func36,ntmps36
  go_wp2_with fail;go_ret;rw[HE.o];exact QE.same HL.o (Wac _ _)
 have hi:¬ (60:Int)<(l.length:Int):=by omega
 have H60:=Hm h60;go_enter func36,ntmps36
 go_wp2_with fail
 go_loopw [15] (fun i wr=>∃ k:Nat,k≤l.length∧i=.int .i64 k∧(∀ p∈l.take k,¬ 200<p.put.length)∧Below w.heap.size w wr) (fun i _=>l.length-(intOf i).toNat)
 case atStart=>exact⟨0,by omega,rfl,by simp,(by repeat (first | exact Wac _ _ | exact Qe (by assumption) | apply Qe | apply Qh | apply Qa | assumption))⟩
 case round =>
  obtain⟨k,hk,rfl,hall,hbel⟩:=hrel;have HB:=Hm hbel;have HALL:=Hm hall;clear hall
  by_cases hkn:k<l.length
  ·obtain⟨b,o,c',hv,hlt,c0,c1,c2⟩:=(HX.o.sl.below hbel).part hkn (by omega)
   cases hv
   have HNX:Hd (¬ 200<l[k].put.length→∀ p∈l.take (k+1),¬ 200<p.put.length):=⟨fun h p hp=>by
    rw[Wag (by omega),List.mem_append] at hp;rcases hp with hp | hp
    ·exact HALL.o p hp
    ·obtain rfl:=Wbd.1 hp;exact h⟩
   have HIN:Hd (l[k]∈l):=⟨Wau _⟩;clear hbel HALL;generalize l[k]=q at *;obtain⟨x,y,z⟩:=q;dsimp only at c0 c1 c2
   by_cases hz:200<z.length
   ·have hzi:(200:Int)<(z.length:Int):=by omega
    have HE:Hd (C.edit l=(4,C)):=⟨by unfold CV.edit;rw[if_pos (.inr ⟨_,HIN.o,hz⟩)]⟩;clear hz;go_wp2_with fail;go_ret;rw[HE.o];exact QE.same HL.o (Qa HB.o _)
   ·have hzi:¬ (200:Int)<(z.length:Int):=by omega
    have HZ:=Hm hz;clear hz;go_wp2_with fail
    exact⟨⟨k+1,by omega,by go_num,HNX.o HZ.o,Qa HB.o _⟩,by simp only[intOf];omega⟩
  ·obtain rfl:k=l.length:=by omega
   obtain⟨w1,rfl⟩:∃ W,W=wr:=⟨_,rfl⟩;have hall:=HALL.o;rw[Wbe] at hall;have HNB:Hd (∀ p∈l,p.put.length≤200):=⟨fun p hp=>Nat.le_of_not_lt (hall p hp)⟩;have HE0:Hd (¬ (60<l.length∨∃ p∈l,200<p.put.length)):=⟨fun e=>e.elim H60.o (fun⟨p,hp,e⟩=>hall p hp e)⟩
   have HPL:Hd (Qc l≤12000∧l.length≤60):=⟨by
    have:=Qfy HNB.o
    have:=H60.o
    omega⟩
   have HTN:Hd (∀ W,Below w.heap.size w W→Calls prog 78 #[.string ⟨(U.encs C.doc).toArray⟩,.int .i64 C.unit,.int .i64 1,.slice Av l.length cv] W (fun e w'=>Qh5 C.doc l C.unit 1 W e w'∧FrE W.heap.size e)):=⟨fun W hb =>
    Qqs (HX.o.sl.below hb) (fun p hp=>by have:=HNB.o p hp;omega) HD.o.1 (by have:=HD.o.2;omega) hn⟩
   clear hall HALL HNB hkn;obtain⟨z0,z1,z2,z3,z4,z5,z6,z7,z8,z9,zz⟩:=(HL.o.below hbel).cells;have lt1:a<w1.heap.size:=Wal lt hbel.size;clear hbel z0 z3 z4 z5 z6 z7 z8 z9 zz;go_upto_region 9 with fail
   go_region_held3 (fun w'=>w'.cell? ⟨a,1,none⟩=some (.int .i64 C.unit)∧w'.cell? ⟨a,2,none⟩=some (.string ⟨(U.encs C.doc).toArray⟩)∧a<w'.heap.size)
    (first | exact HQ5.o | exact⟨z1,z2,lt1⟩ | assumption)
    (first | (go_at_call 78;refine (HTN.o _ (Qe HB.o)).mono ?_;rintro e w5 ⟨⟨hb5,v5,o,k,rfl,hs5,ht5⟩,hf5⟩;have HB5:Hd (Below w.heap.size w w5):=⟨Qb (Qe HB.o) hb5⟩;have HS5:=Hm hs5;have HT5:=Hm ht5;have HF5:Hd (Frs w.heap.size v5):=⟨(hf5 _ _ rfl).mono (Qe HB.o).size⟩;have HQ5:Hd (w5.cell? ⟨a,1,none⟩=some (.int .i64 C.unit)∧w5.cell? ⟨a,2,none⟩=some (.string ⟨(U.encs C.doc).toArray⟩)∧a<w5.heap.size):=⟨(hb5.cell (p:=⟨a,1,none⟩) lt1).trans z1,(hb5.cell (p:=⟨a,2,none⟩) lt1).trans z2,Wal lt1 hb5.size⟩;obtain⟨A5,c5,rfl,-⟩:=hs5;clear hb5 ht5 hf5))
   all_goals
    obtain⟨y1,y2,lt5⟩:=HQ5.o;clear z1 z2 lt1;obtain⟨ho,hko⟩:=Qe8 HT5.o;have HO:=Hm (Wao ho hko);clear ho hko
    by_cases hk0:k=0
    ·subst hk0;obtain⟨⟨X,hX⟩,hpo,hlo,-⟩:=Qbb HK.o.u HT5.o
     have HE1:Hd (C.edit l=if 2000<comes o then (12,C) else (0,{ C with
      doc:=rpl o C.doc
      id:=if C.has then C.id else C.id+1
      way:=if C.has then C.way else o
      has:=true
      waits:=if C.has then (if C.more then cml C.waits o else o) else C.waits
      more:=C.has })):=⟨by unfold CV.edit;rw[if_neg HE0.o,← HO.o.2,← HO.o.1,if_neg (fun h=>h rfl)]⟩
     have HX1:=Hm (Wao hX (Wao hpo hlo));have hw2:=hX.sizes.2;have HRPL:=Hm (ZF hX HD.o.1);have HCO:=Hm hw2;clear hX hpo hlo hw2;go_wp2_with fail;refine (Xx HS5.o HX1.o.1 HD.o.1 (by have:=HD.o.2;omega) (by have:=HX1.o.2.1;have:=HPL.o;omega)).mono ?_;rintro e w6 ⟨rfl,hb⟩;have hb6:=Qb HB5.o hb;have HB6:=Hm hb6;have HS6:=Hm (HS5.o.below hb);clear y1 y2 lt5 hb;have hel:((U.encs (rap X C.doc)).length:Int)=comes o:=by rw[HCO.o];rfl
     by_cases hbig:2000<comes o
     ·have HE2:=Hm (HE1.o.trans (if_pos hbig));have hbi:(2000:Int)<((U.encs (rap X C.doc)).length:Int):=by omega
      clear hel hbig hb6;go_wp2_with fail;go_ret;rw[HE2.o];exact QE.same HL.o HB6.o
     ·have HE2:=Hm (HE1.o.trans (if_neg hbig));have hbi:¬ (2000:Int)<((U.encs (rap X C.doc)).length:Int):=by omega
      have HBK:=Hm (HL.o.below hb6).blk;have HOO:Hd (OpO F w6 (.slice A5 o.length c5) o):=⟨OpO.frs HS6.o HF5.o HL.o.flt⟩;have HWO:Hd (OpO F w6 (.slice Aw C.way.length cw) C.way):=⟨(HL.o.below hb6).way⟩;have HTO:Hd (OpO F w6 (.slice At C.waits.length ct) C.waits):=⟨(HL.o.below hb6).wts⟩;have HSB:Hd (∀ k,k=a→F k):=⟨fun k e=>HL.o.sub k e⟩;obtain⟨z0,z1,z2,z3,z4,z5,z6,z7,z8,z9,zz⟩:=(HL.o.below hb6).cells;have fz:=(HL.o.below hb6).blk.frozen;have lt6:=(HL.o.below hb6).blk.lt;have hid:=HK.o.id1;dsimp only at fz lt6;have HBG:Hd (comes o≤2000):=⟨by omega⟩;clear hel hbig hb6
      cases hh:C.has
      ·rw[hh] at z8;have HH:=Hm hh;have hi1:-1≤C.id∧C.id≤1000000:=by split at hid<;>omega
       clear hh hid;go_wp2_with fail;go_ret;have hE:=HE2.o;have hm:=(HK.o.no HH.o).1;rw[HH.o,hm] at hE;simp only[Bool.false_eq_true,if_false] at hE;rw[hE];have hn:=(((HBK.o.set_ 2 (.string ⟨(U.encs (rap X C.doc)).toArray⟩)).set_ 6 (.slice A5 o.length c5)).set_ 8 (.bool true)).set_ 5 (.int .i64 (C.id+1));unfold RCP.cells at hn;rw[hm] at hn;have hO:=(((((Only.refl (fun k=>k=a) w6).setCell (p:=⟨a,2,none⟩) (.inl rfl) (.string ⟨(U.encs (rap X C.doc)).toArray⟩)).setCell (p:=⟨a,6,none⟩) (.inl rfl) (.slice A5 o.length c5)).setCell (p:=⟨a,8,none⟩) (.inl rfl) (.bool true)).setCell (p:=⟨a,5,none⟩) (.inl rfl) (.int .i64 (C.id+1)));rw[HRPL.o];exact QE.gen HL.o HB6.o hO (HOO.o.only (hO.mono (fun k _=>HSB.o k)) (Grow.refl _ _)) (HTO.o.only (hO.mono (fun k _=>HSB.o k)) (Grow.refl _ _)) hn
      ·cases hm:C.more
       ·rw[hh] at z8;rw[hm] at z9;have HH:=Hm (Wao hh hm);clear hh hm hid;go_wp2_with fail;go_ret;have hE:=HE2.o;rw[HH.o.1,HH.o.2] at hE;simp only[Bool.false_eq_true,if_false,if_true] at hE;rw[hE];have hn:=((HBK.o.set_ 2 (.string ⟨(U.encs (rap X C.doc)).toArray⟩)).set_ 7 (.slice A5 o.length c5)).set_ 9 (.bool true);unfold RCP.cells at hn;rw[HH.o.1] at hn;have hO:=((((Only.refl (fun k=>k=a) w6).setCell (p:=⟨a,2,none⟩) (.inl rfl) (.string ⟨(U.encs (rap X C.doc)).toArray⟩)).setCell (p:=⟨a,7,none⟩) (.inl rfl) (.slice A5 o.length c5)).setCell (p:=⟨a,9,none⟩) (.inl rfl) (.bool true));rw[HRPL.o];exact QE.gen HL.o HB6.o hO (HWO.o.only (hO.mono (fun k _=>HSB.o k)) (Grow.refl _ _)) (HOO.o.only (hO.mono (fun k _=>HSB.o k)) (Grow.refl _ _)) hn
       ·rw[hh] at z8;rw[hm] at z9;have HH:=Hm (Wao hh hm);obtain⟨X1,hX1,hp1,-,hy1⟩:=HK.o.yes hh;obtain⟨Y1,hY1,hq1,hd1⟩:=hy1 hm;have hXo:=HX1.o.1;rw[hd1] at hXo
        have HCM:Hd (∀ W,Only (fun k=>k=a) w6 W→Calls prog 80 #[.slice At C.waits.length ct,.slice A5 o.length c5] W (Qee (cml C.waits o) W)):=⟨fun W hW =>
         Qmi (HTO.o.only (hW.mono (fun k _=>HSB.o k)) (Grow.refl _ _)).sl (HOO.o.only (hW.mono (fun k _=>HSB.o k)) (Grow.refl _ _)).sl hY1 hXo (by have:=hX1.bounds;have:=HK.o.sz;omega) (by omega) (by have:=Jr HX1.o.1.args;have:=HBG.o;omega)⟩
        clear hh hm hid hX1 hp1 hy1 hY1 hq1 hd1 hXo;go_upto_region 18 with fail
        have hn7:=HBK.o.set_ 2 (.string ⟨(U.encs (rap X C.doc)).toArray⟩);have hO7:=(Only.refl (fun k=>k=a) w6).setCell (p:=⟨a,2,none⟩) (.inl rfl) (.string ⟨(U.encs (rap X C.doc)).toArray⟩);generalize w6.setCell ⟨a,2,none⟩ (.string ⟨(U.encs (rap X C.doc)).toArray⟩)=w7 at hn7 hO7 ⊢;have HN7:=Hm hn7;have HO7:=Hm hO7;clear z0 z1 z2 z3 z4 z5 z6 z7 z8 z9 zz fz lt6;obtain⟨z0,z1,z2,z3,z4,z5,z6,z7,z8,z9,zz⟩:=Zj hn7;have fz:=hn7.frozen;have lt7:=hn7.lt;clear hn7 hO7;go_wp2_with fail;refine (HCM.o _ HO7.o).mono ?_;rintro e w9 ⟨hb9,v9,rfl,hs9,hf9⟩;have HS9:=Hm hs9;have HF9:=Hm hf9;have HB9:=Hm hb9;obtain⟨A9,c9,rfl,-⟩:=hs9;have hn9:=HN7.o.below hb9 HN7.o.lt;have HN9:=Hm hn9;clear z0 z1 z2 z3 z4 z5 z6 z7 z8 z9 zz fz lt7 hb9 hf9;obtain⟨z0,z1,z2,z3,z4,z5,z6,z7,z8,z9,zz⟩:=Zj hn9;have fz:=hn9.frozen;have lt9:=hn9.lt;clear hn9;go_wp2_with fail;go_ret;have hE:=HE2.o;rw[HH.o.1,HH.o.2] at hE;simp only[if_true] at hE;rw[hE];have hn:=HN9.o.set_ 7 (.slice A9 (cml C.waits o).length c9);unfold RCP.cells at hn;rw[HH.o.1,HH.o.2] at hn;have hfl:∀ j,F j→j<w7.heap.size:=fun j hj=>Wal (HL.o.flt j hj) (Wbf HB6.o.size HO7.o.size)
        have hO9:=(Only.refl (fun k=>k=a) w9).setCell (p:=⟨a,7,none⟩) (.inl rfl) (.slice A9 (cml C.waits o).length c9);have hO:=(HO7.o.then_below HB9.o).setCell (p:=⟨a,7,none⟩) (.inl rfl) (.slice A9 (cml C.waits o).length c9);rw[HRPL.o];exact QE.gen HL.o HB6.o hO (HWO.o.only (hO.mono (fun k _=>HSB.o k)) (Grow.refl _ _)) ((OpO.frs HS9.o HF9.o hfl).only (hO9.mono (fun k _=>HSB.o k)) (Grow.refl _ _)) hn
    ·have HE:Hd (C.edit l=(k,C)):=⟨by unfold CV.edit;rw[if_neg HE0.o,← HO.o.2,if_pos hk0]⟩;have hk0':(k == 0)=false:=by rw[Waf];exact hk0
     clear hk0;go_wp2_with fail;go_ret;rw[HE.o];exact QE.same HL.o HB5.o
end
end
section
open Go.RowKit Go.Sort
theorem RSrvR.ty {w:World}{F:Nat→Prop}{s:RSP}{S:SV}(h:RSrvR w F s S){j:Nat}(hj:s.F j):Zq w j=some 50∨Zq w j=some 94∨Zq w j=none∨Zq w j=some 9:=by
 rcases hj with rfl | e | e | rfl
 ·exact .inl h.blk.tyo
 ·exact .inr (.inr (.inr (Zn h.docs e)))
 ·exact .inr (.inl (Zn h.own e))
 ·obtain⟨es,clock,hm⟩:=h.map.cap;refine .inr (.inr (.inl ?_));unfold Zq;rw[hm]
theorem RCliR.ty {w:World}{F:Nat→Prop}{c:RCP}{C:CV}(h:RCliR w F c C):Zq w c.a=some 99:=h.blk.tyo
structure RRP where
 a:Nat
 s:RSP
 vc:Value
 cs:List RCP
 vw:Value
 L:List (PK × Value)
def RRP.F (r:RRP)(j:Nat):Prop:=j=r.a∨r.s.F j∨(∃ (k:Nat) (c:RCP),r.cs[k]?=some c∧c.F j)∨r.vw.ownBlock=some j
def Zf (cs:List RCP):List Value:=cs.map fun c=>.pointer (some ⟨c.a,0,none⟩)
def RRP.cells (r:RRP)(lost:Int):Array Value:=#[.pointer (some ⟨r.s.a,0,none⟩),r.vc,r.vw,.int .i64 lost]
structure RRmR (w:World)(F:Nat→Prop)(r:RRP)(R:RM):Prop where
 blk:Blk w r.a 86 (r.cells R.lost)
 srv:RSrvR w F r.s R.srv
 len:r.cs.length=R.cl.length
 cli:∀ (k:Nat) (c:RCP) (C:CV),r.cs[k]?=some c→R.cl[k]?=some C→RCliR w F c C
 vcs:Sl w 1 r.vc r.cs.length (Zf r.cs)
 vco:Out F r.vc
 own:w.ownsRow 0 96 7 r.vw r.L.length (pks r.L)
 way:r.L.map Prod.fst=R.way
 ops:∀ x∈r.L,OpO F w x.2 x.1.en.op
 ap:∀ (i j:Nat) (c c':RCP),i≠j→r.cs[i]?=some c→r.cs[j]?=some c'→c.a≠c'.a
 sub:∀ j,r.F j→F j
 flt:∀ j,F j→j<w.heap.size
section
variable {F F' G:Nat→Prop}{w w' w1 w2:World}{r r1 r':RRP}{R R1 R':RM}
theorem RRmR.get (h:RRmR w F r R){k:Nat}{C:CV}(hC:R.cl[k]?=some C):∃ c,r.cs[k]?=some c∧RCliR w F c C:=by
 have hl:=(Wai.1 hC).1;have hc:r.cs[k]?=some (r.cs[k]'(by rw[h.len];exact hl)):=Waj _
 exact⟨_,hc,h.cli _ _ _ hc hC⟩
theorem RRmR.wl (h:RRmR w F r R):r.L.length=R.way.length:=by rw[← h.way,Wbi]
theorem RRmR.lt (h:RRmR w F r R):∀ j,r.F j→j<w.heap.size:=fun j hj=>h.flt j (h.sub j hj)
theorem RRmR.cty (h:RRmR w F r R){k:Nat}{c:RCP}(hc:r.cs[k]?=some c):∃ C,R.cl[k]?=some C∧RCliR w F c C:=by
 have hl:=(Wai.1 hc).1;have hC:R.cl[k]?=some (R.cl[k]'(by rw[← h.len];exact hl)):=Waj _
 exact⟨_,hC,h.cli _ _ _ hc hC⟩
theorem RRmR.a_s (h:RRmR w F r R){j:Nat}(hj:r.s.F j):j≠r.a:=fun e=>by
 subst e;have h1:=h.blk.tyo;rcases h.srv.ty hj with h2 | h2 | h2 | h2<;>rw[h1] at h2<;>exact absurd h2 (by decide)
theorem RRmR.a_c (h:RRmR w F r R){k:Nat}{c:RCP}(hc:r.cs[k]?=some c){j:Nat}(hj:c.F j):j≠r.a:=fun e=>by
 subst e;have h1:=h.blk.tyo;obtain⟨C,-,hC⟩:=h.cty hc;have t1:=hC.ty;have e:r.a=c.a:=hj;rw[← e,h1] at t1;exact absurd t1 (by decide)
theorem RRmR.a_w (h:RRmR w F r R):r.vw.ownBlock≠some r.a:=fun e=>by
 have h1:=Zn h.own e;rw[h.blk.tyo] at h1;exact absurd h1 (by decide)
theorem RRmR.s_c (h:RRmR w F r R){k:Nat}{c:RCP}(hc:r.cs[k]?=some c){j:Nat}(hj:c.F j):¬ r.s.F j:=fun e=>by
 obtain⟨C,-,hC⟩:=h.cty hc;have t1:=hC.ty;have e1:j=c.a:=hj;rcases h.srv.ty e with h2 | h2 | h2 | h2
 all_goals rw[e1,t1] at h2;exact absurd h2 (by decide)
theorem RRmR.s_w (h:RRmR w F r R){j:Nat}(hj:r.s.F j):r.vw.ownBlock≠some j:=fun e=>by
 have h1:=Zn h.own e;rcases h.srv.ty hj with h2 | h2 | h2 | h2<;>rw[h1] at h2<;>exact absurd h2 (by decide)
theorem RRmR.c_w (h:RRmR w F r R){k:Nat}{c:RCP}(hc:r.cs[k]?=some c){j:Nat}(hj:c.F j):r.vw.ownBlock≠some j:=fun e=>by
 have h1:=Zn h.own e;obtain⟨C,-,hC⟩:=h.cty hc;have t1:=hC.ty;have e1:j=c.a:=hj;rw[e1,t1] at h1;exact absurd h1 (by decide)
theorem RRmR.c_c (h:RRmR w F r R){i k:Nat}(hik:i≠k){c c':RCP}(hi:r.cs[i]?=some c)(hc:r.cs[k]?=some c'){j:Nat}(hj:c.F j):¬ c'.F j:=fun e=>h.ap i k c c' hik hi hc (Eq.trans (Eq.symm (show j=c.a from hj)) (show j=c'.a from e))
theorem RRmR.only (h:RRmR w F r R)(ho:Only G w w')(hG:∀ j,G j→F j)(hs:∀ j,r.F j→¬ G j)(hF:Grow F F' w.heap.size)(hs':∀ j,r.F j→F' j)(hl:∀ j,F' j→j<w'.heap.size):RRmR w' F' r R :=
 ⟨h.blk.only ho (hs _ (.inl rfl)),h.srv.only ho hG (fun j hj=>hs j (.inr (.inl hj))) hF (fun j hj=>hs' j (.inr (.inl hj))) hl,h.len,
  fun k c C hc hC=>(h.cli k c C hc hC).only ho hG (fun j hj=>hs j (.inr (.inr (.inl ⟨k,c,hc,hj⟩)))) hF (fun j hj=>hs' j (.inr (.inr (.inl ⟨k,c,hc,hj⟩)))) hl,
  h.vcs.out (h.vco.sub hG) ho,h.vco.grow h.vcs hF,Qt h.own ho (fun j hj=>hs j (.inr (.inr (.inr hj)))),h.way,fun x hx=>(h.ops x hx).only (ho.mono fun j _=>hG j) hF,h.ap,hs',hl⟩
theorem RRmR.below (h:RRmR w F r R)(hb:Below w.heap.size w w'):RRmR w' F r R:=h.only (G:=fun _=>False) (Only.of_below hb) (fun _ e=>e.elim) (fun _ _ e=>e) (Grow.refl _ _) h.sub (fun j hj=>Wal (h.flt j hj) hb.size)
def Qp (F:Nat→Prop)(r:RRP)(R':RM)(w w':World):Prop :=
 ∃ r':RRP,(r'.a=r.a∧r'.s.a=r.s.a)∧r'.cs.map RCP.a=r.cs.map RCP.a∧Only r.F w w'∧Grow r.F r'.F w.heap.size∧∀ F',(∀ j,F' j→F j∨r'.F j)→(∀ j,r'.F j→F' j)→RRmR w' F' r' R'
theorem Qp.of_below (h:RRmR w F r R)(hb:Below w.heap.size w w'):Qp F r R w w' :=
 ⟨r,⟨rfl,rfl⟩,rfl,Only.of_below hb,Grow.refl _ _,fun _F' h1 h2=>h.only (G:=fun _=>False) (Only.of_below hb) (fun _ e=>e.elim) (fun _ _ e=>e) (fun j hj=>.inl ((h1 j hj).elim id (h.sub j))) h2 (fun j hj=>Wal (h.flt j ((h1 j hj).elim id (h.sub j))) hb.size)⟩
theorem Qp.trans (h:Qp F r R1 w w1)(k:∀ r1 F1,(r1.a=r.a∧r1.s.a=r.s.a)→r1.cs.map RCP.a=r.cs.map RCP.a→RRmR w1 F1 r1 R1→Qp F1 r1 R' w1 w2):Qp F r R' w w2:=by
 obtain⟨r1,a1,a2,a3,a4,a5⟩:=h;obtain⟨r2,b1,b2,b3,b4,b5⟩:=k r1 (fun j=>F j∨r1.F j) a1 a2 (a5 _ (fun _ e=>e) (fun _ e=>.inr e));refine⟨r2,⟨b1.1.trans a1.1,b1.2.trans a1.2⟩,b2.trans a2,a3.step b3 (fun i hi hj=>(a4 i hj).elim id (fun e=>by omega)),a4.trans b4 a3.size,fun F' h1 h2=>b5 F' (fun j hj=>(h1 j hj).elim (fun e=>.inl (.inl e)) .inr) h2⟩
theorem Qp.then_below (h:Qp F r R' w w1)(hb:Below w1.heap.size w1 w2):Qp F r R' w w2:=h.trans (fun _ _ _ _ h1=>Qp.of_below h1 hb)
theorem Qp.from_below (_hR:RRmR w F r R)(hb:Below w.heap.size w w1)(h:Qp F r R' w1 w2):Qp F r R' w w2:=by
 obtain⟨r1,a1,a2,a3,a4,a5⟩:=h
 exact⟨r1,a1,a2,(Only.of_below hb).trans a3,a4.mono hb.size,a5⟩
theorem Qp.next' (hR:RRmR w F r R)(h:Qp F r R' w w1):∃ r1 F1,(r1.a=r.a∧r1.s.a=r.s.a)∧r1.cs.map RCP.a=r.cs.map RCP.a∧RRmR w1 F1 r1 R'∧Only r.F w w1∧Only F w w1∧Grow F F1 w.heap.size∧Grow r.F r1.F w.heap.size∧∀ R2 w2,Qp F1 r1 R2 w1 w2→Qp F r R2 w w2:=by
 have h0:=h;obtain⟨r1,a1,a2,a3,a4,a5⟩:=h;refine⟨r1,fun j=>F j∨r1.F j,a1,a2,a5 _ (fun _ e=>e) (fun _ e=>.inr e),a3,a3.mono (fun j _ hj=>hR.sub j hj),fun j hj=>hj.elim .inl (fun e=>(a4 j e).imp_left (hR.sub j)),a4,fun R2 w2 k=>?_⟩;obtain⟨r2,b1,b2,b3,b4,b5⟩:=k
 exact⟨r2,⟨b1.1.trans a1.1,b1.2.trans a1.2⟩,b2.trans a2,a3.step b3 (fun i hi hj=>(a4 i hj).elim id (fun e=>by omega)),a4.trans b4 a3.size,fun F' h1 h2=>b5 F' (fun j hj=>(h1 j hj).elim (fun e=>.inl (.inl e)) .inr) h2⟩
theorem Qp.next (hR:RRmR w F r R)(h:Qp F r R' w w1):∃ r1 F1,(r1.a=r.a∧r1.s.a=r.s.a)∧r1.cs.map RCP.a=r.cs.map RCP.a∧RRmR w1 F1 r1 R'∧Only r.F w w1∧Only F w w1∧Grow F F1 w.heap.size∧∀ R2 w2,Qp F1 r1 R2 w1 w2→Qp F r R2 w w2:=by
 obtain⟨r1,F1,a1,a2,a3,a4,a5,a6,-,a8⟩:=Qp.next' hR h
 exact⟨r1,F1,a1,a2,a3,a4,a5,a6,a8⟩
theorem RRmR.served (h:RRmR w F r R){x:Int × SV}{e:Ending}(hp:Zi F r.s x w e w'):e=.returned (.int .i64 x.1)∧Qp F r { R with srv:=x.2 } w w':=by
 obtain⟨s',ha,hmm,ho,hg,he,hS⟩:=hp;refine⟨he,{ r with s:=s' },⟨rfl,ha⟩,rfl,ho.mono (fun j _ hj=>.inr (.inl hj)),?_,fun F' h1 h2=>?_⟩
 ·rintro j (e | e | e | e)
  ·exact .inl (.inl e)
  ·exact (hg j e).imp_left (fun e=>.inr (.inl e))
  ·exact .inl (.inr (.inr (.inl e)))
  ·exact .inl (.inr (.inr (.inr e)))
 ·have hgr:Grow F F' w.heap.size:=by
   intro j hj;rcases h1 j hj with e | e | e | e | e
   ·exact .inl e
   ·exact .inl (h.sub _ (.inl e))
   ·exact (hg j e).imp_left (fun e=>h.srv.sub j e)
   ·exact .inl (h.sub _ (.inr (.inr (.inl e))))
   ·exact .inl (h.sub _ (.inr (.inr (.inr e))))
  have hsv:=hS F' (fun j hj=>by
   rcases h1 j hj with e | e | e | e | e
   ·exact .inl e
   ·exact .inl (h.sub _ (.inl e))
   ·exact .inr e
   ·exact .inl (h.sub _ (.inr (.inr (.inl e))))
   ·exact .inl (h.sub _ (.inr (.inr (.inr e))))) (fun j hj=>h2 j (.inr (.inl hj)))
  have hG:=h.srv.sub
  refine⟨?_,hsv,h.len,fun k c C hc hC=>(h.cli k c C hc hC).only ho hG (fun j hj=>h.s_c hc hj) hgr (fun j hj=>h2 j (.inr (.inr (.inl ⟨k,c,hc,hj⟩)))) hsv.flt,
   h.vcs.out (h.vco.sub hG) ho,h.vco.grow h.vcs hgr,Qt h.own ho (fun j hj e=>h.s_w e hj),h.way,fun y hy=>(h.ops y hy).only (ho.mono fun j _=>hG j) hgr,h.ap,h2,hsv.flt⟩
  have:=h.blk.only ho (fun e=>h.a_s e rfl)
  unfold RRP.cells at this ⊢;dsimp only;rw[ha];exact this
theorem Qex {cs:List RCP}{k:Nat}{c c':RCP}(hc:cs[k]?=some c)(ha:c'.a=c.a):(cs.set k c').map RCP.a=cs.map RCP.a:=by
 rw[List.map_set,ha];exact List.set_at_self (by rw[Wav,hc];rfl)
theorem Qkw {cs cs':List RCP}(h:cs'.map RCP.a=cs.map RCP.a):Zf cs'=Zf cs:=by
 have e:∀ l:List RCP,Zf l=(l.map RCP.a).map (fun a=>Value.pointer (some ⟨a,0,none⟩)):=fun l=>by unfold Zf;rw[List.map_map];rfl
 rw[e,e,h]
theorem RRmR.client (h:RRmR w F r R){k:Nat}{c:RCP}(hc:r.cs[k]?=some c){C C':CV}(hC:R.cl[k]?=some C){ev:Value}{e:Ending}(hp:QE F c ev C' w e w'):e=.returned ev∧Qp F r (R.setc k C') w w':=by
 obtain⟨c',ha,ho,he,hS⟩:=hp;have hk:=(Wai.1 hc).1;have hCR:=h.cli k c C hc hC
 have hset:∀ i,(r.cs.set k c')[i]?=if i=k then some c' else r.cs[i]?:=fun i=>by
  by_cases e:i=k
  ·subst e;rw[if_pos rfl,List.getElem?_set_self hk]
  ·rw[if_neg e,List.getElem?_set_ne (fun h=>e h.symm)]
 have hgF:∀ j,c'.F j→c.F j∨w.heap.size≤j:=fun j e=>.inl ((show j=c'.a from e).trans ha)
 refine⟨he,{ r with cs:=r.cs.set k c' },⟨rfl,rfl⟩,Qex hc ha,ho.mono (fun j _ hj=>.inr (.inr (.inl ⟨k,c,hc,hj⟩))),?_,fun F' h1 h2=>?_⟩
 ·rintro j (e | e | ⟨i,ci,hi,e⟩ | e)
  ·exact .inl (.inl e)
  ·exact .inl (.inr (.inl e))
  ·dsimp only at hi;rw[hset] at hi
   split at hi
   ·cases hi
    exact (hgF j e).imp_left (fun e=>.inr (.inr (.inl ⟨k,c,hc,e⟩)))
   ·exact .inl (.inr (.inr (.inl ⟨i,ci,hi,e⟩)))
  ·exact .inl (.inr (.inr (.inr e)))
 ·have hsp:∀ j,F' j→F j∨c'.F j:=by
   intro j hj;rcases h1 j hj with e | e | e | ⟨i,ci,hi,e⟩ | e
   ·exact .inl e
   ·exact .inl (h.sub _ (.inl e))
   ·exact .inl (h.sub _ (.inr (.inl e)))
   ·dsimp only at hi;rw[hset] at hi
    split at hi
    ·cases hi;exact .inr e
    ·exact .inl (h.sub _ (.inr (.inr (.inl ⟨i,ci,hi,e⟩))))
   ·exact .inl (h.sub _ (.inr (.inr (.inr e))))
  have hc'F:∀ j,c'.F j→F' j:=fun j hj=>h2 j (.inr (.inr (.inl ⟨k,c',by dsimp only;rw[hset,if_pos rfl],hj⟩)))
  have hgr:Grow F F' w.heap.size:=fun j hj=>(hsp j hj).elim .inl (fun e=>(hgF j e).imp_left (fun e=>hCR.sub j e))
  have hcv:=hS F' hsp hc'F;have hG:=hCR.sub;have hap:∀ i ci,i≠k→r.cs[i]?=some ci→ci.a≠c'.a:=fun i ci hik hi=>by rw[ha];exact h.ap i k ci c hik hi hc
  refine⟨h.blk.only ho (fun e=>h.a_c hc e rfl),h.srv.only ho hG (fun j hj e=>h.s_c hc e hj) hgr (fun j hj=>h2 j (.inr (.inl hj))) hcv.flt,?_,fun i ci Ci hi hCi=>?_,
   ?_,h.vco.grow h.vcs hgr,Qt h.own ho (fun j hj e=>h.c_w hc e hj),h.way,fun y hy=>(h.ops y hy).only (ho.mono fun j _=>hG j) hgr,fun i j ci cj hij hi hj=>?_,h2,hcv.flt⟩
  ·show (r.cs.set k c').length=(R.cl.set k C').length
   rw[List.length_set,List.length_set];exact h.len
  ·dsimp only at hi;have hCi:(R.cl.set k C')[i]?=some Ci:=hCi;rw[hset] at hi
   split at hi
   ·rename_i e
    cases hi
    subst e;rw[List.getElem?_set_self (by rw[← h.len];exact hk)] at hCi
    cases hCi
    exact hcv
   ·rename_i e
    rw[List.getElem?_set_ne (fun h=>e h.symm)] at hCi;exact (h.cli i ci Ci hi hCi).only ho hG (fun j hj=>h.c_c e hi hc hj) hgr (fun j hj=>h2 j (.inr (.inr (.inl ⟨i,ci,by dsimp only;rw[hset,if_neg e];exact hi,hj⟩)))) hcv.flt
  ·show Sl w' 1 r.vc (r.cs.set k c').length (Zf (r.cs.set k c'))
   rw[Qkw (Qex hc ha),List.length_set];exact h.vcs.out (h.vco.sub hG) ho
  ·dsimp only at hi hj;rw[hset] at hi hj
   split at hi
   ·rename_i e
    cases hi
    rw[if_neg (fun e2=>hij (e.trans e2.symm))] at hj;have b1:=hap j cj (fun e2=>hij (e.trans e2.symm)) hj;exact fun e=>b1 e.symm
   ·rename_i e
    split at hj
    ·cases hj
     exact hap i ci e hi
    ·exact h.ap i j ci cj hij hi hj
theorem RRmR.ways (h:RRmR w F r R){v':Value}{L':List (PK × Value)}{lost':Int}(ho:Only (fun j=>j=r.a∨r.vw.ownBlock=some j) w w')(hb:Blk w' r.a 86 #[.pointer (some ⟨r.s.a,0,none⟩),r.vc,v',.int .i64 lost'])
  (hown:w'.ownsRow 0 96 7 v' L'.length (pks L')) (hv:∀ k,v'.ownBlock=some k→r.vw.ownBlock=some k∨w.heap.size≤k) (hops:∀ x∈L',OpO F w x.2 x.1.en.op):Qp F r { R with way:=L'.map Prod.fst,lost:=lost' } w w':=by
 refine⟨{ r with vw:=v',L:=L' },⟨rfl,rfl⟩,rfl,ho.mono (fun j _ hj=>hj.elim .inl (fun e=>.inr (.inr (.inr e)))),?_,fun F' h1 h2=>?_⟩
 ·rintro j (e | e | e | e)
  ·exact .inl (.inl e)
  ·exact .inl (.inr (.inl e))
  ·exact .inl (.inr (.inr (.inl e)))
  ·exact (hv j e).imp_left (fun e=>.inr (.inr (.inr e)))
 ·have hgr:Grow F F' w.heap.size:=by
   intro j hj;rcases h1 j hj with e | e | e | e | e
   ·exact .inl e
   ·exact .inl (h.sub _ (.inl e))
   ·exact .inl (h.sub _ (.inr (.inl e)))
   ·exact .inl (h.sub _ (.inr (.inr (.inl e))))
   ·exact (hv j e).imp_left (fun e=>h.sub _ (.inr (.inr (.inr e))))
  have hG:∀ j,(j=r.a∨r.vw.ownBlock=some j)→F j:=fun j hj=>h.sub j (hj.elim .inl (fun e=>.inr (.inr (.inr e))))
  have hfl:∀ j,F' j→j<w'.heap.size:=fun j hj=>by
   have hz:=ho.size;rcases h1 j hj with e | e | e | e | e
   ·exact Wal (h.flt j e) hz
   ·exact Wal (h.lt j (.inl e)) hz
   ·exact Wal (h.lt j (.inr (.inl e))) hz
   ·exact Wal (h.lt j (.inr (.inr (.inl e)))) hz
   ·exact (hown.lt j e).2
  exact⟨hb,h.srv.only ho hG (fun j hj e=>e.elim (fun e=>h.a_s hj e) (fun e=>h.s_w hj e)) hgr (fun j hj=>h2 j (.inr (.inl hj))) hfl,h.len,
   fun k c C hc hC=>(h.cli k c C hc hC).only ho hG (fun j hj e=>e.elim (fun e=>h.a_c hc hj e) (fun e=>h.c_w hc hj e)) hgr (fun j hj=>h2 j (.inr (.inr (.inl ⟨k,c,hc,hj⟩)))) hfl,
   h.vcs.out (h.vco.sub hG) ho,h.vco.grow h.vcs hgr,hown,rfl,fun x hx=>(hops x hx).only (ho.mono fun j _=>hG j) hgr,h.ap,h2,hfl⟩
end
end
section
open Go.RowKit Go.Sort
theorem JD:El prog 84 96 7 72:=El.mk' underlying84 (by kernel_rfl) (by decide)
section
attribute [local go_sem] Qr
variable {F:Nat→Prop}{w:World}{r:RRP}{R:RM}
theorem RRmR.sent {W2 w8:World}{p:PK}{v v8:Value}(h:RRmR w F r R)(hb:Below w.heap.size w W2)(hn:¬ 400≤R.way.length)(hx:OpO F w v p.en.op)(h8:w8.ownsRow 0 96 7 v8 (R.way.length+1) (pks r.L++pcv (p,v)))
  (hg:W2.grownBy w8 r.vw.ownBlock) (hnew:∀ k,v8.ownBlock=some k→r.vw.ownBlock=some k∨W2.heap.size≤k):Qp F r (R.send p) w (w8.setCell ⟨r.a,2,none⟩ v8)∧Only (fun j=>j=r.a∨r.vw.ownBlock=some j) w (w8.setCell ⟨r.a,2,none⟩ v8):=by
 have h2:=h.below hb;have hO:=Zzz hg;have hO2:Only (fun j=>j=r.a) w8 (w8.setCell ⟨r.a,2,none⟩ v8):=(Only.refl (fun j=>j=r.a) w8).setCell (p:=⟨r.a,2,none⟩) (.inl rfl) _
 have hna:v8.ownBlock≠some r.a:=fun e=>by
  rcases hnew _ e with e | e
  ·exact h2.a_w e
  ·have:=h2.blk.lt;omega
 have hs:R.send p={ R with way:=R.way++[p] }:=by unfold RM.send;rw[if_neg hn]
 have hw:=h2.ways (v':=v8) (L':=r.L++[(p,v)]) (lost':=R.lost) ((hO.mono (fun j _ e=>.inr e.symm)).trans (hO2.mono (fun j _ e=>.inl e))) ((h2.blk.only hO (fun e=>h2.a_w e.symm)).set_ 2 v8)
  (by rw[Wad,h2.wl,Qa6,Qil];exact Qt h8 hO2 (fun k hk e=>hna (by rw[hk,e]))) hnew
  (fun x hx'=>by
   rcases List.mem_append.1 hx' with e | e
   ·exact h2.ops x e
   ·obtain rfl:=Wbd.1 e;exact hx.below hb (Grow.refl _ _))
 rw[Wbo,h2.way] at hw;rw[hs]
 exact⟨Qp.from_below h hb hw,(Only.of_below hb).trans ((hO.mono (fun j _ e=>.inr e.symm)).trans (hO2.mono (fun j _ e=>.inl e)))⟩
theorem Jc {p:PK}{v:Value}(h:RRmR w F r R)(hx:OpO F w v p.en.op)(hl:-1000000000≤R.lost∧R.lost≤1000000000) :
  Calls prog 81 #[.pointer (some ⟨r.a,0,none⟩),pkV p v] w fun e w'=>e=.returned (.tuple #[])∧Qp F r (R.send p) w w'∧Only (fun j=>j=r.a∨r.vw.ownBlock=some j) w w':=by
 obtain⟨W,hW⟩:∃ W,W=w.alloc (.cells #[.int .i64 p.kind,.int .i64 (p.k:Int),.int .i64 p.rev,.int .i64 p.id,.int .i64 p.en.who,.int .i64 p.en.id,v] 96):=⟨_,rfl⟩;have hb:Below w.heap.size w W:=by rw[hW];exact Qa (Wac _ _) _
 have h1:=h.below hb;have hbx:Blk W w.heap.size 96 #[.int .i64 p.kind,.int .i64 (p.k:Int),.int .i64 p.rev,.int .i64 p.id,.int .i64 p.en.who,.int .i64 p.en.id,v]:=by rw[hW];exact Blk.new _ _ _
 obtain⟨z0,z1,z2,z3⟩:=Qk h.blk;have fz:=h.blk.frozen;have lt:=h.blk.lt;obtain⟨A,c,hv⟩:=Qg h.own;have hwl:=h.wl;rw[hv,hwl] at z2;have HL:=Hm h;have H1:=Hm h1;have HB:=Hm hb;have HV:=Hm hv;have HWL:=Hm hwl;have HX:=Hm hx;have HBX:=Hm hbx;obtain⟨⟨Av,cv,hvv,-⟩,-⟩:=hx;have HW:=Hm hW;subst hvv;obtain⟨hl1,hl2⟩:=hl;clear h h1 hb hv hwl hbx hW
 by_cases hfull:400≤R.way.length
 ·have hi:(400:Int)≤(R.way.length:Int):=by omega
  have HF:=Hm hfull;clear hfull;unfold pkV;go_enter func81,ntmps81
  go_wp2_with fail;go_end0;refine⟨rfl,Qp.then_below ?_ (Qa (Wac _ _) _),?_⟩
  case refine_2=>exact ((Only.refl (fun j=>j=r.a) w).setCell (p:=⟨r.a,3,none⟩) (.inl rfl) (.int .i64 (R.lost+1))).mono (fun j _ e=>.inl e) |>.trans (Only.of_below (Qa (Wac _ _) _))
  have hs:R.send p={ R with lost:=R.lost+1 }:=by unfold RM.send;rw[if_pos HF.o]
  have hO:Only (fun j=>j=r.a) w (w.setCell ⟨r.a,3,none⟩ (.int .i64 (R.lost+1))):=(Only.refl (fun j=>j=r.a) w).setCell (p:=⟨r.a,3,none⟩) (.inl rfl) _;have hw:=HL.o.ways (v':=r.vw) (L':=r.L) (lost':=R.lost+1) (hO.mono (fun j _ e=>.inl e)) (HL.o.blk.set_ 3 (.int .i64 (R.lost+1))) (Qt HL.o.own hO (fun k hk e=>HL.o.a_w (by rw[hk,e]))) (fun k hk=>.inl hk) HL.o.ops;rw[HL.o.way] at hw;rw[hs];exact hw
 ·have hi:¬ (400:Int)≤(R.way.length:Int):=by omega
  have HF:Hd (¬ 400≤R.way.length):=⟨hfull⟩;have HOW:Hd (W.ownsRow 0 96 7 (.slice A R.way.length c) R.way.length (pks r.L)):=⟨by have:=H1.o.own;rw[HV.o,HWL.o] at this;exact this⟩;clear hfull;rw[HW.o] at HOW;unfold pkV;go_enter func81,ntmps81
  go_wp2_with fail;go_region_law (refine Zm JD [.int .i64 p.kind,.int .i64 (p.k:Int),.int .i64 p.rev,.int .i64 p.id,.int .i64 p.en.who,.int .i64 p.en.id,.slice Av p.en.op.length cv] (.slice (some ⟨w.heap.size+1,0,none⟩) 1 1) (HOW.o.drew.alloc _) (Qj7 (by simp) rfl (by unfold maxLen;omega)) rfl rfl rfl rfl (Qbm (v:=.slice Av p.en.op.length cv) rfl p) (by unfold maxLen;omega) (by omega) (Nat.zero_le _) ?_;intro v8 w8 hown8 hbel8 hgr8 hnew8;have HO8:=Hm hown8;obtain⟨A8,c8,rfl⟩:=Qg hown8;have HGR8:=Hm hgr8;have HNW8:=Hm hnew8;have hbk8:=(((HL.o.blk.alloc _).drew_').alloc _).only (Zzz hgr8) (fun e=>HL.o.a_w (by rw[HV.o,HWL.o];exact e.symm));have HBK8:=Hm hbk8;obtain⟨y0,y1,y2,y3⟩:=Qk hbk8;have yf:=hbk8.frozen;have yl:=hbk8.lt;rw[HV.o,HWL.o] at y2;clear hown8 hbel8 hgr8 hnew8 hbk8)
  all_goals
   go_wp2_with fail;go_end0;have hvq:Value.slice A R.way.length c=r.vw:=by rw[HV.o,HWL.o]
   have g1:=HGR8.o;have g2:=HNW8.o;rw[hvq] at g1 g2;refine⟨rfl,HL.o.sent ?_ HF.o HX.o HO8.o g1 g2⟩;exact Qe (Qa (Qa (Wac _ _) _) _)
end
end
section
open Go.RowKit Go.Sort
section
attribute [local go_sem] Qr
variable {F:Nat→Prop}{w:World}{r:RRP}{R:RM}
theorem RRmR.row (h:RRmR w F r R){i:Nat}(hi:i<R.way.length):∃ g cap,r.vw=.slice (some ⟨g,0,none⟩) R.way.length cap∧g≠r.a∧w.ownsRow 0 96 7 (.slice (some ⟨g,0,none⟩) R.way.length cap) R.way.length (pks r.L):=by
 have hown:=h.own;rw[h.wl] at hown;rcases hown.2 with ⟨e,e2⟩ | ⟨g,cap,cur,hv,-⟩
 ·omega
 ·refine⟨g,cap,hv,fun e=>h.a_w (by rw[hv,← e];rfl),?_⟩;rw[hv] at hown;exact hown
theorem RRmR.pk_at {F:Nat→Prop}{w:World}{r:RRP}{R:RM}(h:RRmR w F r R){i:Nat}{p:PK}(hp:R.way[i]?=some p):∃ v,r.L[i]?=some (p,v)∧OpO F w v p.en.op:=by
 have h1:=h.way;rw[← h1,Wav] at hp
 cases hx:r.L[i]? with
 | none=>rw[hx] at hp;cases hp
 | some x =>
  rw[hx] at hp;obtain⟨q,v⟩:=x
  cases hp
  exact⟨v,rfl,h.ops _ (List.mem_of_getElem? hx)⟩
theorem Qln {i:Nat}{p:PK}(h:RRmR w F r R)(hp:R.way[i]?=some p)(_hm:R.way.length≤400)(hl:-1000000000≤R.lost∧R.lost≤1000000000) :
  Calls prog 43 #[.pointer (some ⟨r.a,0,none⟩),.int .i64 (i:Int)] w fun e w'=>e=.returned (.tuple #[])∧Qp F r (R.again i) w w':=by
 obtain⟨z0,z1,z2,z3⟩:=Qk h.blk;have hi:=(Wai.1 hp).1;obtain⟨g,cap,hv,hga,hown⟩:=h.row hi;obtain⟨v,hx,hop⟩:=h.pk_at hp;have hlx:=(Wai.1 hx).1;have hxe:r.L[i]=(p,v):=(Wai.1 hx).2;obtain⟨b,o,cc,hv2,hb,c0,c1,c2,c3,c4,c5,c6⟩:=(Sl.of_own hown).pk hi hlx
 cases hv2
 rw[hxe] at c0 c1 c2 c3 c4 c5 c6;rw[hv] at z2;obtain⟨A,ca,hvv,-⟩:=hop.sl;subst hvv;have HS:=Hm (Jc h hop hl);unfold pkV at HS;have HA:Hd (R.again i=R.send p):=⟨by unfold RM.again;rw[hp]⟩;dsimp only at c0 c1 c2 c3 c4 c5 c6;rw[Nat.zero_add] at c0 c1 c2 c3 c4 c5 c6;clear h hown hv hga hp hx hlx hxe hop;go_enter func43,ntmps43
 go_wp2_with (go_at_call 81;refine HS.o.mono ?_;rintro e w3 ⟨rfl,h3,-⟩;have H3:=Hm h3;clear h3)
 go_end0;rw[HA.o]
 exact⟨rfl,H3.o⟩
end
end
section
open Go.RowKit Go.Sort
abbrev CQ6 (a:Nat)(C:CV)(Aw:Option Addr)(cw:Nat)(w':World):Prop:=w'.cell? ⟨a,4,none⟩=some (.int .i64 (C.rev:Int))∧w'.cell? ⟨a,5,none⟩=some (.int .i64 C.id)∧w'.cell? ⟨a,6,none⟩=some (.slice Aw C.way.length cw)∧a<w'.heap.size
theorem CQ6.of {a:Nat}{C:CV}{Aw:Option Addr}{cw:Nat}{vt:Value}{w':World}(h:Blk w' a 99 (RCP.cells ⟨a,.slice Aw C.way.length cw,vt⟩ C)):CQ6 a C Aw cw w':=by
 obtain⟨-,-,-,-,z4,z5,z6,-⟩:=Zj h
 exact⟨z4,z5,z6,h.lt⟩
section
attribute [local go_sem] Qr
variable {F:Nat→Prop}{w:World}{r:RRP}{R:RM}
theorem Qi6 {k:Nat}{C:CV}(h:RRmR w F r R)(hC:R.cl[k]?=some C)(hl:-1000000000≤R.lost∧R.lost≤1000000000) :
  Calls prog 37 #[.pointer (some ⟨r.a,0,none⟩),.int .i64 (k:Int)] w fun e w'=>e=.returned (.tuple #[])∧Qp F r (R.asks k) w w':=by
 obtain⟨c,hc,hcr⟩:=h.get hC;obtain⟨z0,z1,z2,z3⟩:=Qk h.blk;have hk:=(Wai.1 hc).1;obtain⟨b,o,cc,hv,hb,c0⟩:=h.vcs.one_at (k:=k) hk (u:=.pointer (some ⟨c.a,0,none⟩)) (by unfold Zf;rw[Wav,hc];rfl);rw[hv] at z1;have HL:=Hm h;have HLO:=Hm hl;have HA:Hd (R.asks k=R.send (C.asks k)):=⟨by unfold RM.asks;rw[hC]⟩;have HWO:=Hm hcr.way;obtain⟨a,vw,vt⟩:=c;obtain⟨Aw,cw,hvw,-⟩:=hcr.way.sl;dsimp only at hvw HWO c0;subst hvw;obtain⟨-,-,-,-,y4,y5,y6,-,y8,-,-⟩:=hcr.cells;have lt:=hcr.blk.lt;dsimp only at lt;have HBK:=Hm hcr.blk;have HQ0:=Hm (CQ6.of hcr.blk);have HAP:Hd (¬ (a=r.a∨r.vw.ownBlock=some a)):=⟨fun e=>e.elim (h.a_c hc rfl) (h.c_w hc rfl)⟩;clear h hl hv hc hC hcr
 cases hh:C.has
 ·rw[hh] at y8;have HP:=Hm (CV.asks_no hh k);clear hh;go_enter func37,ntmps37
  go_wp2_with (go_at_call 81;refine (Jc (p:=⟨2,k,C.rev,0,QR⟩) (v:=.slice none 0 0) HL.o (OpO.nil _ _) HLO.o).mono ?_;rintro e w3 ⟨rfl,h3,-⟩;have H3:=Hm h3;clear h3)
  go_end0;rw[HA.o,HP.o]
  exact⟨rfl,H3.o⟩
 ·rw[hh] at y8;have HP:=Hm (CV.asks_yes hh k);clear hh;go_enter func37,ntmps37
  go_upto_region 2 with fail
  go_region_held3 (fun w'=>CQ6 a C Aw cw w')
   (first | exact HQ3.o | exact HQ0.o | assumption)
   (first | (go_at_call 81;refine (Jc (p:=⟨1,k,C.rev,C.id,⟨k,C.id,C.way⟩⟩) (v:=.slice Aw C.way.length cw) (HL.o.below (Qe (Wac _ _))) (HWO.o.below (Qe (Wac _ _)) (Grow.refl _ _)) HLO.o).mono ?_;rintro e w3 ⟨rfl,h3,ho3⟩;have H3:=Hm h3;have HQ3:=Hm (CQ6.of ((HBK.o.drew_').only ho3 HAP.o));clear h3 ho3))
  all_goals
   go_wp2_with fail;go_end0;rw[HA.o,HP.o]
   exact⟨rfl,Qp.from_below HL.o (Qe (Wac _ _)) H3.o⟩
end
end
section
open Go.RowKit Go.Sort
theorem Qfu {w:World}{t:TypeId}{size H base:Nat}(hH:w.heap.size=H)(hb:base≤H):(w.alloc (.cells #[] t)).ownsRow base t size (.slice (some ⟨H,0,none⟩) 0 0) 0 []:=by
 subst hH
 exact⟨by simp,.inr ⟨w.heap.size,0,#[],rfl,hb,Wbc w _,Wak _,by unfold maxLen;omega,by simp,by simp⟩⟩
theorem Sl.to_ {w:World}{size n c k:Nat}{A:Option Addr}{xs:List Value}(h:Sl w size (.slice A n c) n xs)(hk:k≤n):Sl w size (.slice A k c) k (xs.take (k*size)):=by
 obtain⟨A',c',hv,h2,h3,h4,h4',h5⟩:=h
 cases hv
 have hl:(xs.take (k*size)).length=k*size:=by rw[Wbb,h2];exact Nat.min_eq_left (Nat.mul_le_mul_right _ hk)
 refine⟨_,_,rfl,hl,by omega,h4,h4',fun hn=>?_⟩;obtain⟨ad,rfl,hb,hc⟩:=h5 (by omega);refine⟨_,rfl,hb,fun j u hu=>?_⟩
 have hj:j<k*size:=by
  rcases Nat.lt_or_ge j (k*size) with h | h
  ·exact h
  ·rw[List.getElem?_eq_none (by omega)] at hu;cases hu
 exact hc j u (by rw[List.getElem?_take_of_lt hj] at hu;exact hu)
section
variable {P:Program}{t e:TypeId}{size bytes:Nat}
theorem Qm1 (E:El P t e size bytes){A:Option Addr}{n c k:Nat}{w:World}(hk:k≤c) :
  (Instr.sliceAt t (.slice A n c) none (some (.int .i64 (k:Int))) none).run P w=.ok (.slice A k c) w:=by
 have ht:P.underlying t=some (.slice (P.elem t)):=by rw[E.elem];exact E.ht
 rw[run_sliceAt_slice w t _ _ _ _ ht,run_slice_h w t A n c ht .i64 (k:Int) (by omega) (by omega),E.elem,E.sizeOf];simp only[Result.andThen,sliced,Int.toNat_natCast,Nat.sub_zero,Nat.zero_mul]
 congr 2
 split
 ·rfl
 ·cases A with
  | none=>rfl
  | some a=>cases a with | mk b o p=>cases p<;>rfl
end
theorem Qm2 {w:World}{base b':Nat}{e:TypeId}{size:Nat}{v:Value}{n:Nat}{xs:List Value}(h:w.ownsRow base e size v n xs)(hb:b'≤base):w.ownsRow b' e size v n xs :=
 ⟨h.1,h.2.imp id (fun⟨g,cap,cur,a,b,c⟩=>⟨g,cap,cur,a,Wbf hb b,c⟩)⟩
theorem Qm3 {w:World}{base:Nat}{e:TypeId}{size:Nat}{v:Value}{n:Nat}{xs:List Value}(h:w.ownsRow base e size v n xs):w.ownsRow 0 e size v n xs :=
 ⟨h.1,h.2.imp id (fun⟨g,cap,cur,a,_,c⟩=>⟨g,cap,cur,a,Nat.zero_le _,c⟩)⟩
theorem Blk.set7 {F:World→Prop}{w:World}{g:Nat}{t:TypeId}{a0 a1 a2 a3 a4 a5 a6 x0 x1 x2 x3 x4 x5 x6:Value}(h:Blk w g t #[a0,a1,a2,a3,a4,a5,a6])
  (k:∀ w3,Blk w3 g t #[x0,x1,x2,x3,x4,x5,x6]→Only (fun j=>j=g) w w3→F w3) :
  F (((((((w.setCell ⟨g,0,none⟩ x0).setCell ⟨g,1,none⟩ x1).setCell ⟨g,2,none⟩ x2).setCell ⟨g,3,none⟩ x3).setCell ⟨g,4,none⟩ x4).setCell ⟨g,5,none⟩ x5).setCell ⟨g,6,none⟩ x6):=by
 refine k _ ?_ ((((((((Only.refl (fun j=>j=g) w).setCell (p:=⟨g,0,none⟩) (.inl rfl) _).setCell (p:=⟨g,1,none⟩) (.inl rfl) _).setCell (p:=⟨g,2,none⟩) (.inl rfl) _).setCell (p:=⟨g,3,none⟩) (.inl rfl) _).setCell (p:=⟨g,4,none⟩) (.inl rfl) _).setCell (p:=⟨g,5,none⟩) (.inl rfl) _).setCell (p:=⟨g,6,none⟩) (.inl rfl) _);have e:=((((((h.set_ 0 x0).set_ 1 x1).set_ 2 x2).set_ 3 x3).set_ 4 x4).set_ 5 x5).set_ 6 x6;simpa only [List.setIfInBounds_toArray,List.set_cons_zero,List.set_cons_succ] using e
section
attribute [local go_sem] Qr
variable {F:Nat→Prop}{w:World}{r:RRP}{R:RM}
theorem RRmR.one_cells (h:RRmR w F r R):∀ u∈pks r.L,u.oneCell'=true:=by
 intro u hu;obtain⟨x,hx,hu⟩:=List.mem_flatMap.1 hu;obtain⟨A,c,e,-⟩:=(h.ops x hx).1;exact Qbm (v:=x.2) (by rw[e];rfl) x.1 u hu
theorem RRmR.outs {w':World}{v':Value}{i n:Nat}(h:RRmR w F r R)(hn:n=R.way.length)(hi:i<n)(ho:Only (fun j=>j=r.a) w w')(hb:Blk w' r.a 86 #[.pointer (some ⟨r.s.a,0,none⟩),r.vc,v',.int .i64 R.lost])
  (hown:w'.ownsRow w.heap.size 96 7 v' (i+(n-(i+1))) ((pks r.L).take (i*7)++(pks r.L).drop ((i+1)*7))):Qp F r (R.out i) w w':=by
 subst hn;have hwl:=h.wl;have he:r.L.eraseIdx i=r.L.take i++r.L.drop (i+1):=List.eraseIdx_eq_take_drop_succ _ _;have hl:(r.L.eraseIdx i).length=i+(R.way.length-(i+1)):=by rw[List.length_eraseIdx,if_pos (by omega),hwl];omega
 have hx:pks (r.L.eraseIdx i)=(pks r.L).take (i*7)++(pks r.L).drop ((i+1)*7):=by rw[he,Qa6,Qio,Qin]
 have hm:(r.L.eraseIdx i).map Prod.fst=R.way.eraseIdx i:=by rw[he,Wbo,List.map_take,List.map_drop,h.way,List.eraseIdx_eq_take_drop_succ]
 have hs:=h.ways (v':=v') (L':=r.L.eraseIdx i) (lost':=R.lost) (ho.mono (fun j _ e=>.inl e)) hb
  (by rw[hl,hx];exact Qm3 hown) (fun k hk=>.inr (hown.lt k hk).1) (fun x hx=>h.ops x (List.mem_of_mem_eraseIdx hx))
 rw[hm] at hs;exact hs
theorem Qfv {i:Nat}{p:PK}(h:RRmR w F r R)(hp:R.way[i]?=some p)(hm:R.way.length≤400) :
  Calls prog 40 #[.pointer (some ⟨r.a,0,none⟩),.int .i64 (i:Int)] w fun e w'=>(∃ v,e=.returned (pkV p v)∧OpO F w v p.en.op)∧Qp F r (R.out i) w w':=by
 obtain⟨z0,z1,z2,z3⟩:=Qk h.blk;have hi:=(Wai.1 hp).1;obtain⟨g,cap,hv,hga,hown⟩:=h.row hi;obtain⟨v,hx,hop⟩:=h.pk_at hp;have hlx:=(Wai.1 hx).1;have hxe:r.L[i]=(p,v):=(Wai.1 hx).2;obtain⟨b,o,cc,hv2,hb,c0,c1,c2,c3,c4,c5,c6⟩:=(Sl.of_own hown).pk hi hlx
 cases hv2
 rw[hxe] at c0 c1 c2 c3 c4 c5 c6;rw[hv] at z2;obtain⟨A,ca,hvv,-⟩:=hop.sl;subst hvv;obtain⟨n,hn⟩:∃ n,n=R.way.length:=⟨_,rfl⟩;rw[← hn] at z2 hown hm hi hv;have HSL:=Hm (Sl.of_own hown);have HOP:=Hm hop;have HL:=Hm h;have HN:=Hm hn;have HI:=Hm hi;have HV:=Hm hv;have HONE:=Hm h.one_cells;have lt:=h.blk.lt;have hcap:n≤cap:=by obtain⟨A',c',e,-,h3,-⟩:=Sl.of_own hown;cases e;exact h3
 dsimp only at c0 c1 c2 c3 c4 c5 c6;rw[Nat.zero_add] at c0 c1 c2 c3 c4 c5 c6;clear h hown hv hga hp hx hlx hxe hop hn z0 z1 z3;go_enter func40,ntmps40
 go_wp2_with fail;obtain⟨W1,hW1⟩:∃ W,W=(w.alloc (.cells #[.int .i64 0,.int .i64 0,.int .i64 0,.int .i64 0,.int .i64 0,.int .i64 0,.slice none 0 0] 96)).alloc (.cells #[.int .i64 p.kind,.int .i64 (p.k:Int),.int .i64 p.rev,.int .i64 p.id,.int .i64 p.en.who,.int .i64 p.en.id,.slice A p.en.op.length ca] 96):=⟨_,rfl⟩;have HB1:Hd (Below w.heap.size w W1):=⟨by rw[hW1];exact Qa (Qa (Wac _ _) _) _⟩;have HX4:Hd (Blk W1 w.heap.size 96 #[.int .i64 0,.int .i64 0,.int .i64 0,.int .i64 0,.int .i64 0,.int .i64 0,.slice none 0 0]):=⟨by rw[hW1];exact (Blk.new w _ _).alloc _⟩
 have HX5:Hd (Blk W1 (w.heap.size+1) 96 #[.int .i64 p.kind,.int .i64 (p.k:Int),.int .i64 p.rev,.int .i64 p.id,.int .i64 p.en.who,.int .i64 p.en.id,.slice A p.en.op.length ca]):=⟨by
  rw[hW1]
  have:=Blk.new (w.alloc (.cells #[.int .i64 0,.int .i64 0,.int .i64 0,.int .i64 0,.int .i64 0,.int .i64 0,.slice none 0 0] 96)) 96 #[.int .i64 p.kind,.int .i64 (p.k:Int),.int .i64 p.rev,.int .i64 p.id,.int .i64 p.en.who,.int .i64 p.en.id,.slice A p.en.op.length ca]
  rw[Waq] at this;exact this⟩
 have HRL:Hd (r.a<w.heap.size):=⟨lt⟩;rw[← hW1];clear hW1 c0 c1 c2 c3 c4 c5 c6 z2 lt hb;obtain⟨z0,z1,z2,z3⟩:=Qk (HL.o.below HB1.o).blk;rw[HV.o] at z2;have lt:=(HL.o.below HB1.o).blk.lt;have HS0:=Hm ((HSL.o.below HB1.o).to_ (k:=i) (by omega));have HS1:=(HSL.o.below HB1.o).from_ (k:=i+1) (by omega);have hrt:=fun W=>Qm1 JD (A:=some ⟨g,0,none⟩) (n:=n) (c:=cap) (k:=i) (w:=W) (by omega)
 have hrf:=fun W=>Qhp JD (A:=some ⟨g,0,none⟩) (n:=n) (c:=cap) (k:=i+1) (w:=W) (by omega)
 obtain⟨As,cs,hvs⟩:∃ As cs,sliced (some ⟨g,0,none⟩) (i+1) n cap 7=.slice As (n-(i+1)) cs:=⟨_,_,rfl⟩;have e1:((i+1:Nat):Int)=(i:Int)+1:=by omega
 rw[hvs] at hrf HS1;rw[e1] at hrf;have HS1:=Hm HS1;have hw1:IntKind.i64.wrap ((i:Int)+1)=(i:Int)+1:=by rw[Waw]<;>omega
 have HONT:Hd (∀ u∈(pks r.L).take (i*7),u.oneCell'=true):=⟨fun u hu=>HONE.o u (List.mem_of_mem_take hu)⟩;have HOND:Hd (∀ u∈(pks r.L).drop ((i+1)*7),u.oneCell'=true):=⟨fun u hu=>HONE.o u (List.mem_of_mem_drop hu)⟩;have hic:i≤cap:=by omega
 have hin:i+1≤n:=by omega
 clear hvs z0 z1 z3 e1
 go_region_law (first
  | (refine Zm JD ((pks r.L).take (i*7)) (.slice (some ⟨g,0,none⟩) i cap) (by first | exact Qfu (base:=W1.heap.size) rfl (Wak _) | exact (Qfu (base:=W1.heap.size) rfl (Wak _)).drew) (HS0.o.below (by first | exact Qa (Qe (Wac _ _)) _ | exact Qe (Qa (Wac _ _) _))) rfl rfl rfl rfl HONT.o (by unfold maxLen;omega) (by omega) (by simp) ?_;intro v8 w8 hown8 hbel8 hgr8 hnew8;rw[Nat.zero_add,Wbn] at hown8;have HB8:Hd (Below W1.heap.size W1 w8):=⟨by first | exact (Qa (Qe (Wac W1.heap.size W1)) _).trans hbel8 | exact (Qe (Qa (Wac W1.heap.size W1) _)).trans hbel8⟩;have HO8:=Hm hown8;obtain⟨A8,c8,rfl⟩:=Qg hown8;obtain⟨-,-,y2,-⟩:=Qk ((HL.o.below HB1.o).below HB8.o).blk;rw[HV.o] at y2;have yl:=((HL.o.below HB1.o).below HB8.o).blk.lt;clear hown8 hbel8 hgr8 hnew8)
  | (refine Zm JD ((pks r.L).drop ((i+1)*7)) (.slice As (n-(i+1)) cs) HO8.o (HS1.o.below HB8.o) rfl rfl rfl rfl HOND.o (by unfold maxLen;omega) (by omega) HB8.o.size ?_;intro v9 w9 hown9 hbel9 hgr9 hnew9;have HB9:=Hm (HB8.o.trans hbel9);have HO9:=Hm hown9;obtain⟨A9,c9,rfl⟩:=Qg hown9;obtain⟨-,-,x2,-⟩:=Qk ((HL.o.below HB1.o).below HB9.o).blk;rw[HV.o] at x2;have xl:=((HL.o.below HB1.o).below HB9.o).blk.lt;have xf:=((HL.o.below HB1.o).below HB9.o).blk.frozen;clear hown9 hbel9 hgr9 hnew9))
 all_goals
  have hbk9:=((HL.o.below HB1.o).below HB9.o).blk;obtain⟨w10,hw10⟩:∃ W,W=w9.setCell ⟨r.a,2,none⟩ (.slice A9 (i+(n-(i+1))) c9):=⟨_,rfl⟩;have hbk10:=hbk9.set_ 2 (.slice A9 (i+(n-(i+1))) c9);have ho10:Only (fun j=>j=r.a) w9 w10:=by rw[hw10];exact (Only.refl (fun j=>j=r.a) w9).setCell (p:=⟨r.a,2,none⟩) (.inl rfl) _
  rw[← hw10] at hbk10;have HBK10:=Hm hbk10;have HO10:=Hm (Qt HO9.o ho10 (fun k hk e=>by have:=(HO9.o.lt k hk).1;omega));have HW10:=Hm ((Only.of_below HB1.o).trans ((Only.of_below HB9.o).trans ho10));have hx5:=((HX5.o.below HB9.o HX5.o.lt).only ho10 (by have:=HRL.o;omega));have hx4:=((HX4.o.below HB9.o HX4.o.lt).only ho10 (by have:=HRL.o;omega));have HX10:=Hm hx4;obtain⟨q0,q1,q2,q3,q4,q5,q6⟩:=Ym hx5;obtain⟨y0,y1,y2,y3,y4,y5,y6⟩:=Ym hx4;have ql:=hx5.lt;have yl:=hx4.lt;have yf:=hx4.frozen;rw[← hw10];clear hw10 hbk9 hbk10 ho10 hx5 hx4 x2 xl xf;go_wp2_with fail;refine HX10.o.set7 (F:=fun W=>bodyPost _ _ _ Exit.ret _ W) ?_;intro w11 hC hO11;obtain⟨g0,g1,g2,g3,g4,g5,g6⟩:=Ym hC;refine Waz (v:=pkV p (.slice A p.en.op.length ca)) (by unfold pkV;simp[results,results40,go_sem,g0,g1,g2,g3,g4,g5,g6]) rfl ?_;refine⟨⟨_,rfl,HOP.o⟩,HL.o.outs (v':=.slice A9 (i+(n-(i+1))) c9) HN.o HI.o (HW10.o.step hO11 (fun j hj e=>by omega)) (HBK10.o.only hO11 (by have:=HRL.o;omega)) ?_⟩;have h1:=HB1.o.size;have hlt4:=HX4.o.lt;exact Qm2 (Qt HO10.o hO11 (fun k hk e=>by have:=(HO10.o.lt k hk).1;omega)) h1
end
end
section
open Go.RowKit Go.Sort
section
attribute [local go_sem] Qr
variable {F:Nat→Prop}{w:World}{r:RP}{R:RM}{N B:Int}
structure FlI (F:Nat→Prop)(r:RP)(R:RM)(N B:Int)(w:World)(n:Nat)(Rk:RM)(wr:World):Prop where
 wt:wts Rk.way=n
 ok:RMb N B Rk
 fl:Rk.flows=R.flows
 cl:Rk.cl.length=R.cl.length
 rm:RmS F r Rk w wr
theorem Qh6 (h:RmR w F r R)(hb:RMb N B R)(hN:N≤1000000)(hB:B≤700000000)(hcl:R.cl.length≤1000000) :
  Calls prog 68 #[.pointer (some ⟨r.a,0,none⟩)] w fun e w'=>e=.returned (.tuple #[])∧RmS F r R.flows w w':=by
 have HL:=Hm h;have HN:=Hm (Wao hN (Wao hB hcl));have HS:=Hm (FlI.mk (F:=F) (r:=r) (R:=R) (N:=N) (B:=B) (w:=w) (n:=wts R.way) (Rk:=R) (wr:=w) rfl hb rfl rfl (RmS.of_below h (Wac _ _)));obtain⟨n0,hn0⟩:∃ n,n=wts R.way:=⟨_,rfl⟩;rw[← hn0] at HS;clear h hb hN hB hcl hn0;go_enter func68,ntmps68
 go_wp2_with fail
 go_loopg [] n0 (fun gk wr=>∃ Rk:RM,FlI F r R N B w gk Rk wr)
 case atStart=>exact⟨R,HS.o⟩
 case round =>
  obtain⟨Rk,hI⟩:=hrel;have HI:=Hm hI;obtain⟨r1,F1,ha,hcs,hR,ho,hoF,hgr,hnx⟩:=RmS.next HL.o hI.rm;obtain⟨z0,z1,z2,z3⟩:=Qk hR.blk;obtain⟨A,c,hv⟩:=Qg hR.own;rw[hv,hR.wl] at z2;rw[ha.1] at z2;have HR:=Hm hR;have HA:=Hm ha.1;have HNX:=Hm hnx;have lt:=hR.blk.lt;rw[ha.1] at lt;clear HS hI hcs ho hoF hgr hnx hv z0 z1 z3 ha hR
  by_cases hw:Rk.way=[]
  ·have hl:Rk.way.length=0:=by rw[hw];rfl
   have HW:=Hm hw;clear hw;go_wp2_with fail;go_end0;have h1:=HI.o.fl;rw[RM.flows_nil HW.o] at h1;rw[← h1]
   exact⟨rfl,HI.o.rm⟩
  ·have hl:0<Rk.way.length:=Wax.2 hw;have HW:=Hm hw;have hD:=Qj4 HR.o HI.o.ok HN.o.1 HN.o.2.1 hl (by rw[HI.o.cl];exact HN.o.2.2);rw[HA.o] at hD;have HD:=Hm hD;clear hw hD;go_wp2_with (go_at_call 41;refine HD.o.mono ?_;rintro e w3 ⟨rfl,h3⟩;have H3:=Hm h3;clear h3)
   go_roundg (wts (Rk.deliver 0).way)
   case measure =>
    cases hl2:Rk.way with
    | nil=>exact absurd hl2 HW.o
    | cons p l =>
     have:=HI.o.ok.ok.lighter hl2
     rw[HI.o.wt] at this;exact this
   case rel =>
    exact⟨Rk.deliver 0,rfl,HI.o.ok.deliver 0,by rw[← HI.o.fl,HI.o.ok.ok.flows_cons HW.o],by rw[Rk.deliver_cl 0];exact HI.o.cl,HNX.o _ _ H3.o⟩
structure QuI (F:Nat→Prop)(r:RP)(R:RM)(N B:Int)(w:World)(n:Nat)(wr:World):Prop where
 ok:RMb N (B+n*1000) (R.flows.turns n)
 rm:RmS F r (R.flows.turns n) w wr
theorem Qqt (h:RmR w F r R)(hb:RMb N B R)(hN:N≤1000000)(hB:B≤600000000)(hcl:R.cl.length≤1000) :
  Calls prog 32 #[.pointer (some ⟨r.a,0,none⟩)] w fun e w'=>e=.returned (.tuple #[])∧RmS F r R.quiet w w':=by
 have HL:=Hm h;have HN:=Hm (Wao hN (Wao hB hcl));have HFL:=Hm (Qh6 h hb hN (by omega) (by omega));have hfc:=hb.ok.flows_cl;have HFC:=Hm hfc;have HFB:=Hm hb.flows;have HFW:=Hm hb.ok.flows.2;clear h hb hN hB;go_enter func32,ntmps32
 go_wp2_with fail;refine HFL.o.mono ?_;rintro e w1 ⟨rfl,h1⟩;obtain⟨r1,F1,ha,hcs,hR,ho,hoF,hgr,hnx⟩:=RmS.next HL.o h1;obtain⟨z0,z1,z2,z3⟩:=Qk hR.blk;obtain⟨A,c,hv,-⟩:=hR.vcs;rw[hv,hR.len,hfc] at z1;rw[ha.1] at z1;have lt:=hR.blk.lt;rw[ha.1] at lt;have H1:=Hm h1;obtain⟨m,hm⟩:∃ m,m=R.cl.length:=⟨_,rfl⟩;rw[← hm] at z1;have hml:m≤1000:=by omega
 have HM:=Hm hm;clear h1 ha hcs hR ho hoF hgr hnx hv z0 z2 z3 hfc hcl hm;go_wp2_with fail
 go_loopw [10] (fun i wr=>∃ j:Nat,j≤m∧i=.int .i64 j∧QuI F r R N B w j wr) (fun i _=>m-(intOf i).toNat)
 case atStart=>exact⟨0,by omega,rfl,by simpa [RM.turns] using HFB.o,by simpa [RM.turns] using H1.o⟩
 case round =>
  obtain⟨j,hj,rfl,hq⟩:=hrel;have HQ:=Hm hq;clear hq z1
  by_cases hjm:j<m
  ·have htl:=(HFB.o.ok.turns HFW.o j).2.2.1;obtain⟨C,hC⟩:∃ C,(R.flows.turns j).cl[j]?=some C:=⟨_,Waj (by rw[htl,HFC.o,← HM.o];exact hjm)⟩;obtain⟨r1,F1,ha,hcs,hR,ho,hoF,hgr,hnx⟩:=RmS.next HL.o HQ.o.rm;have hsd:=Qj3 hR HQ.o.ok HN.o.1 (by have:=HN.o.2.1;omega) hC;rw[ha.1] at hsd;have HSD:=Hm hsd;have HNX:=Hm hnx;have HA:=Hm (Wao ha hR);have HTL:=Hm htl;clear ha hcs hR ho hoF hgr hnx hsd hC htl;go_wp2_with (go_at_call 38;refine HSD.o.mono ?_;rintro e w2 ⟨rfl,h2⟩;have H2:=Hm h2;clear h2)
   obtain⟨r2,F2,ha2,hcs2,hR2,ho2,hoF2,hgr2,hnx2⟩:=RmS.next HA.o.2 H2.o;have hfl:=Qh6 hR2 (HQ.o.ok.asks j) HN.o.1 (by have:=HN.o.2.1;omega) (by rw[(RM.asks_srv _ _).2,HTL.o,HFC.o];have:=HN.o.2.2;omega);rw[ha2.1,HA.o.1.1] at hfl;have HFL2:=Hm hfl;have HNX2:=Hm hnx2;clear hfl ha2 hcs2 hR2 ho2 hoF2 hgr2 hnx2;go_wp2_with (go_at_call 68;refine HFL2.o.mono ?_;rintro e w3 ⟨rfl,h3⟩;have H3:=Hm h3;clear h3)
   refine⟨⟨j+1,by omega,by go_num,?_,?_⟩,by simp only[intOf];omega⟩
   ·rw[RM.turns_succ]
    have:=(HQ.o.ok.asks j).flows
    exact this.mono (Wba _) (by omega)
   ·rw[RM.turns_succ];exact HNX.o _ _ (HNX2.o _ _ H3.o)
  ·obtain rfl:j=m:=by omega
   go_wp2_with fail;go_end0
   have:=HQ.o.rm
   rw[HM.o] at this
   exact⟨rfl,this⟩
end
end
section
open Go.RowKit Go.Sort
section
attribute [local go_sem] Qr
variable {F:Nat→Prop}{w:World}{r:RP}{R:RM}
theorem Qpy (h:RmR w F r R):Calls prog 46 #[.pointer (some ⟨r.a,0,none⟩)] w fun e w'=>e=.returned (.int .i64 R.lost)∧w'=w:=by
 obtain⟨z0,z1,z2,z3⟩:=Qk h.blk;clear h;go_enter func46,ntmps46
 go_wp2_with fail;go_ret
 exact⟨rfl,rfl⟩
theorem Qpz (h:RmR w F r R){k:Int}(hk:¬ (0≤k∧k<R.cl.length)) :
  Calls prog 38 #[.pointer (some ⟨r.a,0,none⟩),.int .i64 k] w fun e w'=>e=.returned (errno 2)∧w'=w:=by
 have HC:=Hm (Qj6 h (k:=k) (by rw[h.len];exact hk));clear h hk;go_enter func38,ntmps38
 go_wp2_with (go_at_call 27;refine HC.o.mono ?_;rintro e w1 ⟨rfl,rfl⟩;unfold errno)
 go_ret
 exact⟨rfl,rfl⟩
theorem Qp0 (h:RmR w F r R){i:Int}(hi:¬ (0≤i∧i<R.way.length)) :
  Calls prog 41 #[.pointer (some ⟨r.a,0,none⟩),.int .i64 i] w fun e w'=>e=.returned (errno 2)∧w'=w:=by
 obtain⟨z0,z1,z2,z3⟩:=Qk h.blk;obtain⟨A,c,hv⟩:=Qg h.own;rw[hv,h.wl] at z2;clear h hv
 by_cases h0:i<0
 ·go_enter func41,ntmps41
  go_wp2_with fail;go_ret
  exact⟨rfl,rfl⟩
 ·have h1:(R.way.length:Int)≤i:=by omega
  clear hi;go_enter func41,ntmps41
  go_wp2_with fail;go_ret
  exact⟨rfl,rfl⟩
theorem Qp1 (h:RmR w F r R){i:Int}(hi:¬ (0≤i∧i<R.way.length)) :
  Calls prog 42 #[.pointer (some ⟨r.a,0,none⟩),.int .i64 i] w fun e w'=>e=.returned (errno 2)∧w'=w:=by
 obtain⟨z0,z1,z2,z3⟩:=Qk h.blk;obtain⟨A,c,hv⟩:=Qg h.own;rw[hv,h.wl] at z2;clear h hv
 by_cases h0:i<0
 ·go_enter func42,ntmps42
  go_wp2_with fail;go_ret
  exact⟨rfl,rfl⟩
 ·have h1:(R.way.length:Int)≤i:=by omega
  clear hi;go_enter func42,ntmps42
  go_wp2_with fail;go_ret
  exact⟨rfl,rfl⟩
theorem Qp2 (h:RmR w F r R){i:Int}(hi:¬ (0≤i∧i<R.way.length)) :
  Calls prog 44 #[.pointer (some ⟨r.a,0,none⟩),.int .i64 i] w fun e w'=>e=.returned (errno 2)∧w'=w:=by
 obtain⟨z0,z1,z2,z3⟩:=Qk h.blk;obtain⟨A,c,hv⟩:=Qg h.own;rw[hv,h.wl] at z2;clear h hv
 by_cases h0:i<0
 ·go_enter func44,ntmps44
  go_wp2_with fail;go_ret
  exact⟨rfl,rfl⟩
 ·have h1:(R.way.length:Int)≤i:=by omega
  clear hi;go_enter func44,ntmps44
  go_wp2_with fail;go_ret
  exact⟨rfl,rfl⟩
end
end
end Go.Proofs.YtdgdajnbkfmijaaGreatDoor
