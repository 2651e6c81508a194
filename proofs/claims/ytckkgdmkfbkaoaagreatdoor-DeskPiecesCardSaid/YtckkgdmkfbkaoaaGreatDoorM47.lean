/- Texts of the proof. -/
import Derived.Test.YtckkgdmkfbkaoaaGreatDoorM46
import Derived.Test.YtckkgdmkfbkaoaaGreatDoorM37
namespace Go.Proofs.YtckkgdmkfbkaoaaGreatDoor
open Go.Proofs.Tryz
set_option maxRecDepth 100000
set_option maxHeartbeats 32000000
set_option linter.all false
section
open Go.RowKit Go.Sort
def Out (F:Nat→Prop)(v:Value):Prop:=∀ ad n c,v=.slice (some ad) n c→0<n→¬ F ad.block
section
variable {F F' G:Nat→Prop}{w w':World}
theorem Out.nil (F:Nat→Prop):Out F (.slice none 0 0):=fun ad n c e=>by cases e
theorem Out.frs {B:Nat}{v:Value}(h:Frs B v)(hF:∀ j,F j→j<B):Out F v:=fun ad n c e _ hk=>by have:=h ad n c e;have:=hF _ hk;omega
theorem Out.sub {v:Value}(h:Out F v)(hF:∀ j,F' j→F j):Out F' v:=fun ad n c e hn hk=>h ad n c e hn (hF _ hk)
theorem Out.grow {v:Value}{size n:Nat}{xs:List Value}(h:Out F v)(hs:Sl w size v n xs)(hF:Grow F F' w.heap.size):Out F' v:=fun ad m c e hn hk=>by
 rcases hF _ hk with h1 | h1
 ·exact h ad m c e hn h1
 ·obtain⟨A,c',e',-,-,-,-,h5⟩:=hs;rw[e'] at e
  cases e
  obtain⟨ad',e2,hb,-⟩:=h5 hn
  cases e2
  omega
theorem Sl.out {size n:Nat}{v:Value}{xs:List Value}(h:Sl w size v n xs)(hv:Out G v)(ho:Only G w w'):Sl w' size v n xs:=h.only ho (fun A c e hn=>hv A n c e hn)
structure ShO (F:Nat→Prop)(w:World)(f:Nat)(u:Int)(R:List Int):Prop where
 all:U.AllR R
 u1:1≤u∧u≤3
 sz:bl R≤8000
 ex:∃ t vh vr,Blk w f 275 #[.int .i64 u,.string ⟨t.toArray⟩,vh,vr]∧ShV w u R t vh vr∧Out F vh∧Out F vr
theorem ShO.shs {f:Nat}{u:Int}{R:List Int}(h:ShO F w f u R):ShS w f u R:=by
 obtain⟨t,vh,vr,a,b,-⟩:=h.ex
 exact⟨h.all,h.u1,h.sz,t,vh,vr,a,b⟩
theorem ShF.sho {B f:Nat}{u:Int}{R:List Int}(h:ShF B w f u R)(hF:∀ j,F j→j<B):ShO F w f u R:=by
 obtain⟨t,vh,vr,a,b,c,d⟩:=h.ex
 exact⟨h.all,h.u1,h.sz,t,vh,vr,a,b,.frs c hF,.frs d hF⟩
theorem ShV.out {u:Int}{R:List Int}{t:U.Bs}{vh vr:Value}(h:ShV w u R t vh vr)(h1:Out G vh)(h2:Out G vr)(ho:Only G w w'):ShV w' u R t vh vr :=
 ⟨h.k1,fun e=>⟨(h.k2 e).1,(h.k2 e).2.1.out h1 ho,(h.k2 e).2.2⟩,fun e=>⟨(h.k3 e).1,(h.k3 e).2.1,(h.k3 e).2.2.out h2 ho⟩⟩
theorem ShV.grow {u:Int}{R:List Int}{t:U.Bs}{vh vr:Value}(h:ShV w u R t vh vr)(hu:1≤u∧u≤3)(h1:Out F vh)(h2:Out F vr)(hF:Grow F F' w.heap.size):Out F' vh∧Out F' vr:=by
 have h3:u=1∨u=2∨u=3:=by omega
 rcases h3 with rfl | rfl | rfl
 ·obtain⟨-,rfl,rfl⟩:=h.k1 rfl
  exact⟨.nil _,.nil _⟩
 ·obtain⟨-,hs,rfl⟩:=h.k2 rfl
  exact⟨h1.grow hs hF,.nil _⟩
 ·obtain⟨-,rfl,hs⟩:=h.k3 rfl
  exact⟨.nil _,h2.grow hs hF⟩
theorem ShO.only {f:Nat}{u:Int}{R:List Int}(h:ShO F w f u R)(ho:Only G w w')(hG:∀ j,G j→F j)(hf:¬ G f)(hF:Grow F F' w.heap.size):ShO F' w' f u R:=by
 obtain⟨t,vh,vr,a,b,c,d⟩:=h.ex;obtain⟨g1,g2⟩:=b.grow h.u1 c d hF
 exact⟨h.all,h.u1,h.sz,t,vh,vr,a.only ho hf,b.out (c.sub hG) (d.sub hG) ho,g1,g2⟩
theorem ShO.sub {f:Nat}{u:Int}{R:List Int}(h:ShO F w f u R)(hF:∀ j,F' j→F j):ShO F' w f u R:=by
 obtain⟨t,vh,vr,a,b,c,d⟩:=h.ex
 exact⟨h.all,h.u1,h.sz,t,vh,vr,a,b,c.sub hF,d.sub hF⟩
end
structure CP where
 a:Nat
 f:Nat
 vw:Value
 vt:Value
def CP.F (c:CP)(j:Nat):Prop:=j=c.a∨j=c.f
def CP.cells (c:CP)(C:CV):Array Value:=#[.int .i64 C.who,.pointer (some ⟨c.f,0,none⟩),.string ⟨(U.encs C.seen).toArray⟩,.int .i64 (C.rev:Int),.int .i64 C.id,c.vw,c.vt,.bool C.has,.bool C.more,.int .i64 C.dropped]
structure CliR (w:World)(F:Nat→Prop)(c:CP)(C:CV):Prop where
 blk:Blk w c.a 221 (c.cells C)
 way:OpO F w c.vw C.way
 wts:OpO F w c.vt C.waits
 sh:ShO F w c.f C.unit C.doc
 sub:∀ j,c.F j→F j
 flt:∀ j,F j→j<w.heap.size
section
variable {F F' G:Nat→Prop}{w w':World}{c:CP}{C:CV}
theorem CliR.ne (h:CliR w F c C):c.a≠c.f:=by
 intro e;obtain⟨t,vh,vr,hb,-⟩:=h.sh.ex;have ha:=h.blk;rw[e] at ha;unfold Blk at ha hb;rw[ha] at hb;simp at hb
theorem CliR.only (h:CliR w F c C)(ho:Only G w w')(hG:∀ j,G j→F j)(hs:∀ j,c.F j→¬ G j)(hF:Grow F F' w.heap.size)(hs':∀ j,c.F j→F' j)(hl:∀ j,F' j→j<w'.heap.size):CliR w' F' c C :=
 ⟨h.blk.only ho (hs _ (.inl rfl)),h.way.only (ho.mono (fun k _=>hG k)) hF,h.wts.only (ho.mono (fun k _=>hG k)) hF,h.sh.only ho hG (hs _ (.inr rfl)) hF,hs',hl⟩
theorem CliR.below (h:CliR w F c C)(hb:Below w.heap.size w w'):CliR w' F c C:=h.only (G:=fun _=>False) (Only.of_below hb) (fun _ e=>e.elim) (fun _ _ e=>e) (Grow.refl _ _) h.sub (fun j hj=>Wal (h.flt j hj) hb.size)
theorem CliR.lt (h:CliR w F c C):∀ j,c.F j→j<w.heap.size:=fun j hj=>h.flt j (h.sub j hj)
theorem ZM {g:Nat}{ty:TypeId}{a0 a1 a2 a3 a4 a5 a6 a7 a8 a9:Value}(h:Blk w g ty #[a0,a1,a2,a3,a4,a5,a6,a7,a8,a9]) :
  w.cell? ⟨g,0,none⟩=some a0∧w.cell? ⟨g,1,none⟩=some a1∧w.cell? ⟨g,2,none⟩=some a2∧w.cell? ⟨g,3,none⟩=some a3∧w.cell? ⟨g,4,none⟩=some a4 ∧
   w.cell? ⟨g,5,none⟩=some a5∧w.cell? ⟨g,6,none⟩=some a6∧w.cell? ⟨g,7,none⟩=some a7∧w.cell? ⟨g,8,none⟩=some a8∧w.cell? ⟨g,9,none⟩=some a9:=by
 have z:=fun j=>h.cell j
 have z0:=z 0;have z1:=z 1;have z2:=z 2;have z3:=z 3;have z4:=z 4;have z5:=z 5;have z6:=z 6;have z7:=z 7;have z8:=z 8;have z9:=z 9;simp only[Wab,Waa,Wae] at z0 z1 z2 z3 z4 z5 z6 z7 z8 z9
 exact⟨z0,z1,z2,z3,z4,z5,z6,z7,z8,z9⟩
theorem CliR.cells {a f:Nat}{vw vt:Value}(h:CliR w F ⟨a,f,vw,vt⟩ C) :
  w.cell? ⟨a,0,none⟩=some (.int .i64 C.who)∧w.cell? ⟨a,1,none⟩=some (.pointer (some ⟨f,0,none⟩))∧w.cell? ⟨a,2,none⟩=some (.string ⟨(U.encs C.seen).toArray⟩)∧w.cell? ⟨a,3,none⟩=some (.int .i64 (C.rev:Int))∧w.cell? ⟨a,4,none⟩=some (.int .i64 C.id) ∧
   w.cell? ⟨a,5,none⟩=some vw∧w.cell? ⟨a,6,none⟩=some vt∧w.cell? ⟨a,7,none⟩=some (.bool C.has)∧w.cell? ⟨a,8,none⟩=some (.bool C.more)∧w.cell? ⟨a,9,none⟩=some (.int .i64 C.dropped):=ZM h.blk
theorem CliR.frozen {a f:Nat}{vw vt:Value}(h:CliR w F ⟨a,f,vw,vt⟩ C):(∀ i,w.frozen? ⟨a,i,none⟩=false)∧a<w.heap.size:=⟨h.blk.frozen,h.blk.lt⟩
def Qu (F:Nat→Prop)(c:CP)(ev:Value)(C':CV)(w:World)(e:Ending)(w':World):Prop :=
 ∃ c':CP,c'.a=c.a∧Only c.F w w'∧Grow c.F c'.F w.heap.size∧e=.returned ev∧∀ F',(∀ j,F' j→F j∨c'.F j)→(∀ j,c'.F j→F' j)→CliR w' F' c' C'
theorem Qu.same {ev:Value}(h:CliR w F c C)(hb:Below w.heap.size w w'):Qu F c ev C w (.returned ev) w' :=
 ⟨c,rfl,Only.of_below hb,Grow.refl _ _,rfl,fun _F' h1 h2=>h.only (G:=fun _=>False) (Only.of_below hb) (fun _ e=>e.elim) (fun _ _ e=>e) (fun j hj=>.inl ((h1 j hj).elim id (h.sub j))) h2 (fun j hj=>Wal (h.flt j ((h1 j hj).elim id (h.sub j))) hb.size)⟩
theorem Qu.from_ {w3:World}{ev:Value}{C':CV}{e:Ending}(hb:Below w.heap.size w w3)(h:Qu F c ev C' w3 e w'):Qu F c ev C' w e w':=by
 obtain⟨c',h1,h2,h3,h4,h5⟩:=h
 exact⟨c',h1,(Only.of_below hb).trans h2,h3.mono hb.size,h4,h5⟩
theorem Qu.turn {ev vw vt:Value}{C':CV}(h:CliR w F c C)(ho:Only c.F w w')(hb:Blk w' c.a 221 (CP.cells ⟨c.a,c.f,vw,vt⟩ C'))(h1:OpO F w' vw C'.way)(h2:OpO F w' vt C'.waits)(h3:ShO F w' c.f C'.unit C'.doc):Qu F c ev C' w (.returned ev) w' :=
 ⟨⟨c.a,c.f,vw,vt⟩,rfl,ho,fun j hj=>.inl hj,rfl,fun _ k1 k2=>by
  have k:=fun j hj=>(k1 j hj).elim id (fun e=>h.sub j e)
  exact⟨hb,h1.sub k,h2.sub k,h3.sub k,k2,fun j hj=>Wal (h.flt j (k j hj)) ho.size⟩⟩
end
theorem Qrm {w:World}{F:Nat→Prop}{c:CP}{C:CV}(h:CliR w F c C):Calls prog 151 #[.pointer (some ⟨c.a,0,none⟩)] w fun e w'=>e=.returned (.int .i64 (C.rev:Int))∧w'=w:=by
 obtain⟨z0,z1,z2,z3,z4,z5,z6,z7,z8,z9⟩:=ZM h.blk;clear h;go_enter func151,ntmps151
 go_wp2_with fail;go_ret
 exact⟨rfl,rfl⟩
theorem Qrn {w:World}{F:Nat→Prop}{c:CP}{C:CV}(h:CliR w F c C):Calls prog 155 #[.pointer (some ⟨c.a,0,none⟩)] w fun e w'=>e=.returned (.string ⟨(U.encs C.seen).toArray⟩)∧w'=w:=by
 obtain⟨z0,z1,z2,z3,z4,z5,z6,z7,z8,z9⟩:=ZM h.blk;clear h;go_enter func155,ntmps155
 go_wp2_with fail;go_ret
 exact⟨rfl,rfl⟩
theorem Qro {w:World}{F:Nat→Prop}{c:CP}{C:CV}(h:CliR w F c C):Calls prog 153 #[.pointer (some ⟨c.a,0,none⟩)] w fun e w'=>e=.returned (.bool C.has)∧w'=w:=by
 obtain⟨z0,z1,z2,z3,z4,z5,z6,z7,z8,z9⟩:=ZM h.blk;clear h;go_enter func153,ntmps153
 go_wp2_with fail;go_ret
 exact⟨rfl,rfl⟩
theorem Qrp {w:World}{F:Nat→Prop}{c:CP}{C:CV}(h:CliR w F c C):Calls prog 152 #[.pointer (some ⟨c.a,0,none⟩)] w fun e w'=>e=.returned (.int .i64 C.dropped)∧w'=w:=by
 obtain⟨z0,z1,z2,z3,z4,z5,z6,z7,z8,z9⟩:=ZM h.blk;clear h;go_enter func152,ntmps152
 go_wp2_with fail;go_ret
 exact⟨rfl,rfl⟩
theorem Qrq {w:World}{F:Nat→Prop}{c:CP}{C:CV}(h:CliR w F c C):Calls prog 160 #[.pointer (some ⟨c.a,0,none⟩)] w fun e w'=>e=.returned (.string ⟨(U.encs C.doc).toArray⟩)∧Below w.heap.size w w':=by
 obtain⟨z0,z1,z2,z3,z4,z5,z6,z7,z8,z9⟩:=ZM h.blk;have HT:=Hm (Qco h.sh.shs);clear h;go_enter func160,ntmps160
 go_wp2_with fail;refine HT.o.mono ?_;rintro e w1 ⟨rfl,hb1⟩;have HB1:=Hm hb1;clear hb1;go_wp2_with fail;go_ret
 exact⟨rfl,HB1.o⟩
theorem Qg4 {fn:Func}{t u v x:Tmp}(h:fn.results=#[.tmp t,.tmp u,.tmp v,.tmp x])(tmps:Array Value)(P:Program)(w:World) :
  (results fn tmps).run P w=.ok (.tuple #[tmps.getD t undef,tmps.getD u undef,tmps.getD v undef,tmps.getD x undef]) w:=by simp[results,h]
def Qrr (C:CV)(w:World)(e:Ending)(w':World):Prop :=
 Below w.heap.size w w'∧(C.has=false→e=.returned (.tuple #[.int .i64 0,.int .i64 (C.rev:Int),.slice none 0 0,.bool false])) ∧
  (C.has=true→∃ v,e=.returned (.tuple #[.int .i64 C.id,.int .i64 (C.rev:Int),v,.bool true])∧Sl w' 3 v C.way.length (opv C.way)∧Frs w.heap.size v)
theorem Qrs {w:World}{F:Nat→Prop}{c:CP}{C:CV}(h:CliR w F c C)(hn:C.way.length≤1000000):Calls prog 216 #[.pointer (some ⟨c.a,0,none⟩)] w (Qrr C w):=by
 obtain⟨z0,z1,z2,z3,z4,z5,z6,z7,z8,z9⟩:=ZM h.blk;have HLT:=Hm h.blk.lt;have HW:=Hm h.way.sl;obtain⟨A,cc,hv,-⟩:=h.way.sl;rw[hv] at z5 HW;clear h hv
 cases hh:C.has
 ·rw[hh] at z7;have HH:=Hm hh;clear hh;go_enter func216,ntmps216
  go_wp2_with fail;go_quiet (fail)
  go_wp2_with fail
  (try simp only[Exit.inBlock,Exit.then])
  refine Waz (Qg4 rfl _ _ _) rfl ?_
  exact⟨Qo nq (Wac _ _),fun _=>rfl,fun e=>by rw[HH.o] at e;cases e⟩
 ·rw[hh] at z7;have HH:=Hm hh;clear hh;go_enter func216,ntmps216
  go_upto_region 3 with fail
  go_region_with (go_at_call 278;refine (Qde (HW.o.below (Qe (Wac _ _))) hn).mono ?_;rintro e w1 ⟨⟨v1,rfl,hs1,hf1⟩,hb1⟩;have hb2:Below w.heap.size w w1:=(Qe (Wac _ _)).trans hb1;have y3:=hb2.cell (p:=⟨c.a,3,none⟩) HLT.o;have y4:=hb2.cell (p:=⟨c.a,4,none⟩) HLT.o;rw[z3] at y3;rw[z4] at y4;have H:=Hm (Wao hs1 (Wao hf1 hb2));obtain⟨A1,c1,rfl,-⟩:=hs1;clear hf1 hb1 hb2)
  all_goals
   go_wp2_with fail
   (try simp only[Exit.inBlock,Exit.then])
   refine Waz (Qg4 rfl _ _ _) rfl ?_;refine⟨H.o.2.2,?_,?_⟩
   ·intro e;rw[HH.o] at e;cases e
   ·intro _;exact⟨_,rfl,H.o.1,H.o.2.1⟩
end
section
open Go.RowKit Go.Sort
theorem Qck {R:List Int}(h:U.AllR R):U.Sp (U.encs R) R []:=U.sp_encs h
theorem Qf6 {R:List Int}(h:U.AllR R)(hb:bl R≤8000)(w:World) :
  Calls prog 134 #[.string ⟨(U.encs R).toArray⟩] w fun e w'=>Below w.heap.size w w'∧∃ p t,e=.returned (.tuple #[.pointer (some ⟨p,0,none⟩),.nilIface])∧AtR w' p t∧Good t∧t.runes=R:=by
 refine (Qaj (Qck h) w (by show bl R≤_;omega)).mono ?_;rintro e w' ⟨hb',-,-,h4⟩;obtain⟨p,t,a,b,c,d,-⟩:=h4 rfl hb
 exact⟨hb',p,t,a,b,c,d⟩
def Qn9 (c:CP)(C:CV)(V:List (RU Int))(w:World)(e:Ending)(w':World):Prop :=
 e=.returned .nilIface∧Only (fun k=>k=c.f) w w'∧∃ B,w.heap.size≤B∧ShF B w' c.f C.unit (rap V C.doc)
theorem Qcl {w:World}{F:Nat→Prop}{c:CP}{C:CV}{l:List PT}{V:List (RU Int)}{v:Value}(h:CliR w F c C)(hg:Zn F w)(hx:OpO F w v l)(hV:OpR l V C.doc)(hp:Qd l≤100000)(hn:l.length≤100000)(hb:bl (rap V C.doc)≤8000) :
  Calls prog 296 #[.pointer (some ⟨c.a,0,none⟩),v] w (Qn9 c C V w):=by
 obtain⟨z0,z1,z2,z3,z4,z5,z6,z7,z8,z9⟩:=ZM h.blk;have HLT:=Hm h.blk.lt;have HT:=Hm (Qco h.sh.shs);have HS:=Hm h.sh.shs;have HR:=fun W=>Hm (Qf6 h.sh.all h.sh.sz W)
 have HU:=Hm (Wao h.sh.u1 h.sh.all);have HG:=Hm hg.1;have HX:=Hm hx.sl;have HV:=Hm hV;have HP:=Hm (Wao hp hn);have HB:=Hm hb;obtain⟨A,cc,rfl,-⟩:=hx.sl;clear h hg hx hV hp hn hb z0 z2 z3 z4 z5 z6 z7 z8 z9;go_enter func296,ntmps296
 go_wp2_with fail;refine HT.o.mono ?_;rintro e w1 ⟨rfl,hb1⟩;have HB1:=Hm hb1;clear hb1;go_wp2_with fail;refine (HR _).out.mono ?_;rintro e w2 ⟨hb2,p,t,rfl,hat,hgd,hrt⟩;have hx2:=Qa HB1.o hb2;have HB2:=Hm hx2;have HAT:=Hm hat
 have HGD:=Hm hgd;have HRT:=Hm hrt;have y1:=hx2.cell (p:=⟨c.a,1,none⟩) HLT.o;rw[z1] at y1;clear hb2 hat hgd hrt hx2;go_wp2_with fail;refine (Qcn (HS.o.below HB2.o)).mono ?_;rintro e w3 ⟨rfl,rfl⟩;go_wp2_with fail;refine (Qwi (R:=C.doc) HAT.o HGD.o HRT.o.symm (HG.o.below HB2.o) (HX.o.below HB2.o) (fun p hp=>by have:=Qjr hp;have:=HP.o.1;omega) HP.o.2).mono ?_;rintro e w4 ⟨⟨hb4,v4,o,k,rfl,hs4,ht4⟩,-⟩;obtain⟨rfl,ht5,hpo,hlo⟩:=Qse HU.o.1 HV.o ht4;rw[show erV 0=Value.nilIface from rfl];have hx4:=Qa HB2.o hb4;have HB4:=Hm hx4;have HS4:=Hm hs4;have HT5:=Hm (Wao ht5 (Wao hpo hlo));have x1:=hx4.cell (p:=⟨c.a,1,none⟩) HLT.o;rw[z1] at x1;obtain⟨A4,c4,rfl,-⟩:=hs4;clear hb4 ht4 ht5 hpo hlo hx4 y1;go_wp2_with fail;refine (Qjd (HS.o.below HB4.o) (HG.o.below HB4.o) HS4.o (by have:=HP.o.1;have:=HT5.o.2.1;omega) (by have:=HP.o.2;have:=HT5.o.2.2;omega)).mono ?_;rintro e w5 ⟨ho5,h5⟩
 have hfin:e=.returned .nilIface∧ShF w4.heap.size w5 c.f C.unit (rap V C.doc):=by
  rcases h5 with ⟨k,hk,-,-,hu⟩ | ⟨O,X,hO,-,-,hu,-,hh⟩
  ·exact absurd (hu _ _ HT5.o.1).symm hk
  ·obtain⟨e1,-⟩:=hu _ _ HT5.o.1;subst e1
   have e2:rap X C.doc=rap V C.doc:=by
    have a1:=(hO.apply HU.o.2).2;have a2:=(HV.o.apply HU.o.2).2;exact Qbh (QW hO.allP HU.o.2) (QW HV.o.allP HU.o.2) (a1.symm.trans a2)
   rw[e2] at hh;rcases hh with ⟨h8,-⟩ | ⟨-,he,hs⟩
   ·exact absurd HB.o (by omega)
   ·exact⟨he,hs⟩
 obtain⟨rfl,hs5⟩:=hfin;have HO5:=Hm ho5;have HS5:=Hm hs5;clear ho5 h5 hs5;go_wp2_with fail;go_ret
 exact⟨rfl,(Only.of_below HB4.o).trans HO5.o,_,HB4.o.size,HS5.o⟩
end
section
open Go.RowKit Go.Sort
def Qg3 (l:List PT)(w:World)(e:Ending)(w':World):Prop :=
 Below w.heap.size w w'∧∃ v,e=.returned (.tuple #[v,.nilIface])∧Sl w' 3 v l.length (opv l)∧Frs w.heap.size v
theorem Qal {l:List PT}{X:List (RU Int)}{R:List Int}(h:OpR l X R)(hR:bl R≤20000)(hp:Qd l≤20000):Mo l l.length:=by
 have hb:=h.sizes.1;exact Qdx h.arg (by rw[hb];omega) (by omega)
theorem XR {a b:List PT}{X Y:List (RU Int)}{R:List Int}{va vb:Value}{first:Bool}{w:World}(hg:Hdl w)(ha:Sl w 3 va a.length (opv a))(hb:Sl w 3 vb b.length (opv b))(hX:OpR a X R)(hY:OpR b Y R)(hR:bl R≤20000)(hpa:Qd a≤20000)(hpb:Qd b≤20000) :
  Calls prog 295 #[va,vb,.bool first] w (Qg3 (trl first a b) w):=by
 refine (Qie (first:=first) hg ha hb (Qal hX hR hpa) (Qal hY hR hpb)).mono ?_;rintro e w' ⟨⟨hb',v,rfl,h0,-⟩,hf⟩;have hc:trc a b=0:=Qi9 hX.arg hY.arg hX.sizes.1 hY.sizes.1 (by omega)
 exact⟨hb',v,by rw[hc];rfl,h0 hc,hf _ _ rfl⟩
theorem Qql {a b:List PT}{X Y:List (RU Int)}{R:List Int}{va vb:Value}{w:World}(hg:Hdl w)(ha:Sl w 3 va a.length (opv a))(hb:Sl w 3 vb b.length (opv b))(hX:OpR a X R)(hY:OpR b Y (rap X R))(hR:bl R≤10000)(hpa:Qd a≤10000)(hpb:Qd b≤10000) :
  Calls prog 211 #[va,vb] w (Qg3 (cml a b) w):=by
 have h2:bl (rap X R)≤20000:=by have:=hX.bounds;omega
 refine (Qp9 hg ha hb (Qal hX (by omega) (by omega)) (Qal hY h2 (by omega))).mono ?_;rintro e w' ⟨⟨hb',v,rfl,h0,-⟩,hf⟩;have c1:=Jp hX.arg hX.sizes.1;have c2:=Jp hY.arg hY.sizes.1;have e1:=hX.sizes.1;have e2:=hX.sizes.2;have e3:=hY.sizes.1;have w1:wrap64 (bl R:Int)=bl R:=YK (by omega) (by omega);have w2:wrap64 (bl (rap X R):Int)=bl (rap X R):=YK (by omega) (by omega)
 have hc:cmc a b=0:=by
  unfold cmc Zf;rw[e1,e3,e2,w1,w2,c1,c2];simp
 exact⟨hb',v,by rw[hc];rfl,h0 hc,hf _ _ rfl⟩
theorem Qc1 {l:List PT}{X:List (RU Int)}{R:List Int}{v:Value}{w:World}(hg:Hdl w)(hs:Sl w 3 v l.length (opv l))(hX:OpR l X R)(hR:U.AllR R)(hb:bl R≤100000)(hp:Qd l≤100000) :
  Calls prog 294 #[v,.string ⟨(U.encs R).toArray⟩] w fun e w'=>e=.returned (.tuple #[.string ⟨(U.encs (rap X R)).toArray⟩,.nilIface])∧Below w.heap.size w w':=by
 refine (Qed hg hs (fun p hp'=>by have:=Y2 hp';omega) (by omega) (by show bl R≤_;omega)).mono ?_;rintro e w' ⟨rfl,hb'⟩;obtain⟨h1,h2⟩:=hX.apply hR
 exact⟨by rw[h1,h2];rfl,hb'⟩
end
section
open Go.RowKit Go.Sort
theorem Qu.done {w w7:World}{F:Nat→Prop}{c:CP}{C C':CV}{vw vt:Value}(h:CliR w F c C)(ho:Only (fun k=>k=c.f) w w7)(hs:∃ B,w.heap.size≤B∧ShF B w7 c.f C.unit C'.doc)
  (hC:C'.who=C.who∧C'.unit=C.unit∧C'.id=C.id∧C'.has=C.has∧C'.more=C.more∧C'.dropped=C.dropped) (h1:OpO F w7 vw C'.way) (h2:OpO F w7 vt C'.waits) :
  Qu F c .nilIface C' w (.returned .nilIface) ((((w7.setCell ⟨c.a,2,none⟩ (.string ⟨(U.encs C'.seen).toArray⟩)).setCell ⟨c.a,3,none⟩ (.int .i64 (C'.rev:Int))).setCell ⟨c.a,5,none⟩ vw).setCell ⟨c.a,6,none⟩ vt):=by
 obtain⟨e1,e2,e3,e4,e5,e6⟩:=hC;obtain⟨B,hB,hs⟩:=hs;have hne:=h.ne;have hb7:Blk w7 c.a 221 (c.cells C):=h.blk.only ho hne;have hn:=(((hb7.set_ 2 (.string ⟨(U.encs C'.seen).toArray⟩)).set_ 3 (.int .i64 (C'.rev:Int))).set_ 5 vw).set_ 6 vt;have hof:Only (fun k=>k=c.a) w7 _:=(((((Only.refl (fun k=>k=c.a) w7).setCell (p:=⟨c.a,2,none⟩) (.inl rfl) (.string ⟨(U.encs C'.seen).toArray⟩)).setCell (p:=⟨c.a,3,none⟩) (.inl rfl) (.int .i64 (C'.rev:Int))).setCell (p:=⟨c.a,5,none⟩) (.inl rfl) vw).setCell (p:=⟨c.a,6,none⟩) (.inl rfl) vt);have hF:∀ j,c.F j→F j:=h.sub;have hca:∀ j,j=c.a→F j:=fun j e=>hF j (.inl e)
 have hlt:∀ j,F j→j<w7.heap.size:=fun j hj=>Wal (h.flt j hj) ho.size
 refine Qu.turn h ((ho.mono (fun k _ e=>.inr e)).trans (hof.mono (fun k _ e=>.inl e))) ?_ (h1.only (hof.mono (fun k _=>hca k)) (Grow.refl _ _)) (h2.only (hof.mono (fun k _=>hca k)) (Grow.refl _ _)) ?_
 ·unfold CP.cells at hn ⊢;rw[e1,e3,e4,e5,e6];exact hn
 ·rw[e2];exact (hs.sho (fun j hj=>Wal (h.flt j hj) hB)).only hof hca (fun e=>hne e.symm) (Grow.refl _ _)
theorem OpO.still {w w7:World}{F:Nat→Prop}{f:Nat}{v:Value}{l:List PT}(h:OpO F w v l)(ho:Only (fun k=>k=f) w w7)(hf:F f):OpO F w7 v l:=h.only (ho.mono (fun k _ e=>by subst e;exact hf)) (Grow.refl _ _)
theorem OpO.fresh {w w4 w5 w7:World}{F:Nat→Prop}{f:Nat}{v:Value}{l:List PT}(hF:∀ j,F j→j<w.heap.size)(hw:w.heap.size≤w4.heap.size)(hs:Sl w5 3 v l.length (opv l))(hf:Frs w4.heap.size v)(ho:Only (fun k=>k=f) w5 w7)(hff:F f):OpO F w7 v l :=
 OpO.frs (B:=w.heap.size) (hs.frs (B:=w.heap.size) (hf.mono hw) ho (fun k e=>by subst e;exact hF _ hff)) (hf.mono hw) hF
theorem CliR.cells_only {w w':World}{F:Nat→Prop}{C:CV}{a f:Nat}{vw vt:Value}(h:CliR w F ⟨a,f,vw,vt⟩ C)(ho:Only (fun k=>k=f) w w') :
  (w'.cell? ⟨a,0,none⟩=some (.int .i64 C.who)∧w'.cell? ⟨a,1,none⟩=some (.pointer (some ⟨f,0,none⟩))∧w'.cell? ⟨a,2,none⟩=some (.string ⟨(U.encs C.seen).toArray⟩)∧w'.cell? ⟨a,3,none⟩=some (.int .i64 (C.rev:Int))∧w'.cell? ⟨a,4,none⟩=some (.int .i64 C.id) ∧
   w'.cell? ⟨a,5,none⟩=some vw∧w'.cell? ⟨a,6,none⟩=some vt∧w'.cell? ⟨a,7,none⟩=some (.bool C.has)∧w'.cell? ⟨a,8,none⟩=some (.bool C.more)∧w'.cell? ⟨a,9,none⟩=some (.int .i64 C.dropped))∧(∀ i,w'.frozen? ⟨a,i,none⟩=false)∧a<w'.heap.size:=by
 have hb:Blk w' a 221 (CP.cells ⟨a,f,vw,vt⟩ C):=h.blk.only ho h.ne
 exact⟨ZM hb,hb.frozen,hb.lt⟩
theorem Qlj {w:World}{F:Nat→Prop}{c:CP}{C:CV}{e:EN}{v:Value}{T:Int}{Z:List (RU Int)}(h:CliR w F c C)(hg:Zn F w)(hk:COk T C)(hrv:C.rev≤100000)(hx:OpO F w v e.op)(hf:Fit_ C e Z)(ho:¬ C.isOwn e) :
  Calls prog 255 #[.pointer (some ⟨c.a,0,none⟩),.int .i64 (C.rev:Int),.agg #[.int .i64 e.who,.int .i64 e.id,v]] w (Qu F c .nilIface (C.other e) w):=by
 obtain⟨W0,hW0⟩:∃ W,W=w.alloc (.cells #[.int .i64 e.who,.int .i64 e.id,v] 300):=⟨_,rfl⟩;have hb0:Below w.heap.size w W0:=by rw[hW0];exact Qb (Wac _ _) _
 have hbx:Blk W0 w.heap.size 300 #[.int .i64 e.who,.int .i64 e.id,v]:=by rw[hW0];exact Blk.new _ _ _
 have HSEEN:Hd (bl C.seen≤2000∧Qd e.op≤2000∧e.op.length≤4000):=⟨by
  have:=hf.op.bounds;have:=hf.sz;have:=hk.sz
  have:=Xh (fun p hp=>(hf.op.arg p hp).1);have:=hf.op.sizes.1
  omega⟩
 obtain⟨Av,cv,hv,-⟩:=hx.sl;subst hv;obtain⟨a,f,vw,vt⟩:=c;obtain⟨Aw,cw,hvw,-⟩:=h.way.sl;obtain⟨At,ct,hvt,-⟩:=h.wts.sl;dsimp only at hvw hvt ⊢;subst hvw hvt;have HW0:=Hm hW0;have HB0:=Hm hb0;have HBX:=Hm hbx;have HL:=Hm h;have HG:=Hm hg;have HX:=Hm hx;have HF:=Hm hf;have HO:=Hm ho;have HK:=Hm hk;obtain⟨z0,z1,z2,z3,z4,z5,z6,z7,z8,z9⟩:=h.cells;have lt:=h.frozen.2;clear hb0 hbx h hg hx hf ho hk hW0;go_enter func255,ntmps255
 go_upto_region 3 with fail
 rw[← HW0.o];obtain⟨y0,y1,y2,y3,y4,y5,y6,y7,y8,y9⟩:=(HL.o.below HB0.o).cells;obtain⟨b0,b1,b2⟩:=Zq HBX.o
 have hqA:∀ d os,Calls prog 294 #[.slice Av e.op.length cv,.string ⟨(U.encs C.seen).toArray⟩] (grow (redrawn W0 d) os) fun e' w''=>e'=.returned (.tuple #[.string ⟨(U.encs (rap Z C.seen)).toArray⟩,.nilIface])∧∃ p:Regrown,w''=grow (redrawn W0 p.d) p.os:=fun d os =>
  Calls.regrown_of (Qc1 (HG.o.1.below (Qa HB0.o (below_regrown W0 d os))) (HX.o.sl.below (Qa HB0.o (below_regrown W0 d os))) HF.o.op HK.o.all (by have:=HSEEN.o;omega) (by have:=HSEEN.o;omega))
 have k2:=cell_regrown y2;have kb2:=cell_regrown b2;refine wp_region_quiet_below (by kernel_rfl) (by kernel_rfl) ?_
 repeat (quiet_step (exact hqA _ _))
 refine wpQuiet_nil ?_;rintro _ ⟨⟨dq,oq⟩,rfl⟩;have hb1:=Qa HB0.o (below_regrown W0 dq oq);have hbx1:=HBX.o.below (below_regrown W0 dq oq) HBX.o.lt;generalize grow (redrawn W0 dq) oq=w1 at hb1 hbx1 ⊢;have HB1:=Hm hb1;clear hqA k2 kb2 y0 y1 y2 y3 y4 y5 y6 y7 y8 y9 b0 b1 b2 z0 z1 z2 z3 z4 z5 z6 z7 z8 z9;obtain⟨z0,z1,z2,z3,z4,z5,z6,z7,z8,z9⟩:=(HL.o.below hb1).cells;obtain⟨b0,b1,b2⟩:=Zq hbx1;have HBX1:=Hm hbx1;have lt1:a<w1.heap.size:=Wal lt hb1.size;clear hb1 hbx1;go_upto_region 6 with fail
 go_cut [55] from 34 to 55 (fun sv wx=>sv=.bool false∧Below w1.heap.size w1 wx)
 case first =>
  by_cases h1:e.who=C.who
  ·have hq1:(e.who == C.who)=true:=by rw[h1];exact beq_self_eq_true _
   cases hh:C.has
   ·rw[hh] at z7;clear h1 hh;go_quiet (fail)
    go_wp2
    go_meet
    exact⟨rfl,Qo nq (Wac _ _)⟩
   ·have hid:(e.id == C.id)=false:=by rw[Waf];exact fun h2=>HO.o ⟨h1,hh,h2⟩
    rw[hh] at z7;clear h1 hh;go_quiet (fail)
    go_wp2
    go_meet
    exact⟨rfl,Qo nq (Wac _ _)⟩
  ·have hq1:(e.who == C.who)=false:=by rw[Waf];exact h1
   clear h1;go_quiet (fail)
   go_wp2
   go_meet
   exact⟨rfl,Qo nq (Wac _ _)⟩
 case rest =>
  obtain⟨rfl,hb2⟩:=hcut;obtain⟨w2,rfl⟩:∃ W,W=wc:=⟨_,rfl⟩;have hx2:=Qa HB1.o hb2;have hbx2:=HBX1.o.below hb2 HBX1.o.lt;have HB2:=Hm hx2;have HBX2:=Hm hbx2;clear z0 z1 z2 z3 z4 z5 z6 z7 z8 z9 b0 b1 b2;obtain⟨z0,z1,z2,z3,z4,z5,z6,z7,z8,z9⟩:=(HL.o.below hx2).cells;obtain⟨b0,b1,b2⟩:=Zq hbx2;have lt2:a<w2.heap.size:=Wal lt hx2.size;clear hb2 hx2 hbx2 lt1;go_upto_region 17 with fail
  go_quiet (fail)
  have hx3:=Qo nq HB2.o;generalize w2.drewN nq=w3 at hx3 ⊢;clear HB2 HBX2 HB1 HBX1 HB0 HBX HW0 z0 z1 z2 z3 z4 z5 z6 z7 z8 z9 b0 b1 b2 lt2;have HB3:=Hm hx3;obtain⟨⟨V,hV,hpv⟩,hpa,-,-⟩:=HK.o.over_ HF.o;have HV:=Hm (Wao hV hpv);have HPA:=Hm hpa;have HOK:=Hm (HK.o.over_ HF.o).2.2.1.doc_;have hl:(C.other e).doc=rap V C.doc:=YG hV HK.o.doc_.1;have HDOC:=Hm hl;have HSN:=Hm (HK.o.over_ HF.o).2.2.2;have HLX:=Hm (HL.o.below hx3);have HGX:=Hm (HG.o.below hx3 (Grow.refl _ _));have HXX:=Hm (HX.o.below hx3 (Grow.refl _ _));have HDB:Hd (bl C.doc≤6000∧bl (rap V C.doc)≤8000):=⟨by rw[← hl];have:=HOK.o.2;have:=HK.o.doc_.2;omega⟩;obtain⟨z0,z1,z2,z3,z4,z5,z6,z7,z8,z9⟩:=HLX.o.cells;have lt3:=HLX.o.frozen.2;clear hx3 hpa hV hpv hl
  cases hh:C.has
  ·have hm:=(HK.o.no hh).1;rw[hh] at z7;rw[hm] at z8;have hover:C.over e=e.op:=by unfold CV.over CV.past;rw[hm,hh];rfl
   have hway:(C.other e).way=C.way:=by unfold CV.other;dsimp only;rw[hh];rfl
   have hwts:(C.other e).waits=C.waits:=by unfold CV.other;dsimp only;rw[hm];rfl
   have HH:=Hm (Wao hway hwts);have HLY:=Hm (Qcl HLX.o HGX.o HXX.o (by rw[← hover];exact HV.o.1) (by have:=HSEEN.o;omega) (by have:=HSEEN.o;omega) HDB.o.2);clear hh hm hover hway hwts;go_wp2_with fail;refine HLY.o.mono ?_;rintro e' w7 ⟨rfl,ho7,hs7⟩;have HO7:=Hm (ho7);have HS7:=Hm (hs7);clear z0 z1 z2 z3 z4 z5 z6 z7 z8 z9;obtain⟨⟨z0,z1,z2,z3,z4,z5,z6,z7,z8,z9⟩,fz,lt7⟩:=HLX.o.cells_only HO7.o;have HN7:=Hm ho7;clear ho7 hs7;go_wp2_with fail;go_ret;have hd:=Qu.done (C':=C.other e) (vw:=.slice Aw C.way.length cw) (vt:=.slice At C.waits.length ct) HLX.o HO7.o (by rw[HDOC.o];exact HS7.o) ⟨rfl,rfl,rfl,rfl,rfl,rfl⟩ (by rw[HH.o.1];exact HLX.o.way.still HO7.o (HLX.o.sub _ (.inr rfl))) (by rw[HH.o.2];exact HLX.o.wts.still HO7.o (HLX.o.sub _ (.inr rfl)));rw[HSN.o] at hd;exact Qu.from_ HB3.o hd
  ·cases hm:C.more
   ·have hpast:C.past e=trl true e.op C.way:=by unfold CV.past;rw[hh];rfl
    have hway:(C.other e).way=trl false C.way e.op:=by unfold CV.other;dsimp only;rw[hh];rfl
    have hover:C.over e=C.past e:=by unfold CV.over;rw[hm];rfl
    have hwts:(C.other e).waits=C.waits:=by unfold CV.other;dsimp only;rw[hm];rfl
    obtain⟨X,hX,hpw,hn0,hy0⟩:=HK.o.yes hh;obtain⟨VP,hVP,hpp⟩:=HPA.o X hh hX;rw[hpast] at hVP hpp hover;have HXP:=Hm (Wao hX (Wao hpw (Wao hVP hpp)));have HBX:Hd (bl (rap X C.seen)≤4000):=⟨by have:=hX.bounds;have:=HSEEN.o.1;omega⟩;have HHH:=Hm (Wao hh hm);have HH:=Hm (Wao hway hwts);have HVO:=Hm HV.o;rw[hover] at HVO;have HPL:Hd (Qd (trl true e.op C.way)≤2000∧(trl true e.op C.way).length≤100000):=⟨by have h1:=HVO.o.2;have h2:=HVO.o.1.sizes.1;have h3:=Xh (fun p hp=>(HVO.o.1.arg p hp).1);have h4:=HSEEN.o;have h5:=HDB.o.1;omega⟩;rw[hh] at z7;rw[hm] at z8;clear hh hm hpast hway hover hX hpw hn0 hy0 hVP hpp hwts;go_wp2_with fail;refine (XR (first:=false) HGX.o.1 HLX.o.way.sl HXX.o.sl HXP.o.1 HF.o.op (by have:=HSEEN.o;omega) (by have:=HXP.o.2.1;omega) (by have:=HSEEN.o;omega)).mono ?_;rintro e' w4 ⟨hb4,v4,rfl,hs4,hf4⟩;have HS4:=Hm hs4;have HF4:=Hm hf4;have HC4:=Hm hb4;have HB4:=Hm (hb4);obtain⟨A4,c4,rfl,-⟩:=hs4;clear z0 z1 z2 z3 z4 z5 z6 z7 z8 z9;obtain⟨z0,z1,z2,z3,z4,z5,z6,z7,z8,z9⟩:=(HLX.o.below HB4.o).cells;rw[HHH.o.1] at z7;rw[HHH.o.2] at z8;clear hb4 hf4;go_wp2_with fail;refine (XR (first:=true) (HGX.o.1.below HB4.o) (HXX.o.sl.below HB4.o) (HLX.o.way.sl.below HB4.o) HF.o.op HXP.o.1 (by have:=HSEEN.o;omega) (by have:=HSEEN.o;omega) (by have:=HXP.o.2.1;omega)).mono ?_;rintro e' w5 ⟨hb5,v5,rfl,hs5,hf5⟩;have HS5:=Hm hs5;have HF5:=Hm hf5;have HC5:=Hm hb5;have HB5:=Hm (Qa HB4.o hb5);obtain⟨A5,c5,rfl,-⟩:=hs5;clear z0 z1 z2 z3 z4 z5 z6 z7 z8 z9;obtain⟨z0,z1,z2,z3,z4,z5,z6,z7,z8,z9⟩:=(HLX.o.below HB5.o).cells;rw[HHH.o.1] at z7;rw[HHH.o.2] at z8;clear hb5 hf5;have hfl:∀ j,F j→j<w3.heap.size:=HLX.o.flt;have HOX:=Hm (OpO.frs HS5.o (HF5.o.mono HB4.o.size) hfl);have HLY:=Hm (Qcl (HLX.o.below HB5.o) (HGX.o.below HB5.o (Grow.refl _ _)) HOX.o HVO.o.1 (by have:=HPL.o.1;omega) HPL.o.2 HDB.o.2);clear hfl;go_wp2_with fail;refine HLY.o.mono ?_;rintro e' w7 ⟨rfl,ho7,B,hB,hs7⟩;have HO7:Hd (Only (fun k=>k=f) w3 w7):=⟨(Only.of_below HB5.o).trans ho7⟩;have HS7:Hd (∃ B,w3.heap.size≤B∧ShF B w7 f C.unit (rap V C.doc)):=⟨B,Wbf HB5.o.size hB,hs7⟩;have HN7:Hd (Only (fun k=>k=f) w5 w7):=⟨ho7⟩;clear z0 z1 z2 z3 z4 z5 z6 z7 z8 z9 hB hs7 ho7;obtain⟨⟨z0,z1,z2,z3,z4,z5,z6,z7,z8,z9⟩,fz,lt7⟩:=HLX.o.cells_only HO7.o;go_wp2_with fail;go_ret;have hd:=Qu.done (C':=C.other e) (vw:=.slice A4 (trl false C.way e.op).length c4) (vt:=.slice At C.waits.length ct) HLX.o HO7.o (by rw[HDOC.o];exact HS7.o) ⟨rfl,rfl,rfl,rfl,rfl,rfl⟩ (by rw[HH.o.1];exact OpO.fresh HLX.o.flt (Wak _) (HS4.o.below HC5.o) HF4.o HN7.o (HLX.o.sub _ (.inr rfl))) (by rw[HH.o.2];exact HLX.o.wts.still HO7.o (HLX.o.sub _ (.inr rfl)));rw[HSN.o] at hd;exact Qu.from_ HB3.o hd
   ·have hpast:C.past e=trl true e.op C.way:=by unfold CV.past;rw[hh];rfl
    have hway:(C.other e).way=trl false C.way e.op:=by unfold CV.other;dsimp only;rw[hh];rfl
    have hover:C.over e=trl true (C.past e) C.waits:=by unfold CV.over;rw[hm];rfl
    have hwts:(C.other e).waits=trl false C.waits (C.past e):=by unfold CV.other;dsimp only;rw[hm];rfl
    obtain⟨X,hX,hpw,hn0,hy0⟩:=HK.o.yes hh;obtain⟨VP,hVP,hpp⟩:=HPA.o X hh hX;rw[hpast] at hVP hpp hover hwts;have HXP:=Hm (Wao hX (Wao hpw (Wao hVP hpp)));have HBX:Hd (bl (rap X C.seen)≤4000):=⟨by have:=hX.bounds;have:=HSEEN.o.1;omega⟩;obtain⟨Y,hY,hpy,-⟩:=hy0 hm;have HY:=Hm (Wao hY hpy);have HHH:=Hm (Wao hh hm);have HH:=Hm (Wao hway hwts);have HVO:=Hm HV.o;rw[hover] at HVO;have HPL:Hd (Qd (trl true (trl true e.op C.way) C.waits)≤2000∧(trl true (trl true e.op C.way) C.waits).length≤100000):=⟨by have h1:=HVO.o.2;have h2:=HVO.o.1.sizes.1;have h3:=Xh (fun p hp=>(HVO.o.1.arg p hp).1);have h4:=HSEEN.o;have h5:=HDB.o.1;omega⟩;rw[hh] at z7;rw[hm] at z8;clear hh hm hpast hway hover hX hpw hn0 hy0 hVP hpp hpy hY hwts;go_wp2_with fail;refine (XR (first:=false) HGX.o.1 HLX.o.way.sl HXX.o.sl HXP.o.1 HF.o.op (by have:=HSEEN.o;omega) (by have:=HXP.o.2.1;omega) (by have:=HSEEN.o;omega)).mono ?_;rintro e' w4 ⟨hb4,v4,rfl,hs4,hf4⟩;have HS4:=Hm hs4;have HF4:=Hm hf4;have HC4:=Hm hb4;have HB4:=Hm (hb4);obtain⟨A4,c4,rfl,-⟩:=hs4;clear z0 z1 z2 z3 z4 z5 z6 z7 z8 z9;obtain⟨z0,z1,z2,z3,z4,z5,z6,z7,z8,z9⟩:=(HLX.o.below HB4.o).cells;rw[HHH.o.1] at z7;rw[HHH.o.2] at z8;clear hb4 hf4;go_wp2_with fail;refine (XR (first:=true) (HGX.o.1.below HB4.o) (HXX.o.sl.below HB4.o) (HLX.o.way.sl.below HB4.o) HF.o.op HXP.o.1 (by have:=HSEEN.o;omega) (by have:=HSEEN.o;omega) (by have:=HXP.o.2.1;omega)).mono ?_;rintro e' w5 ⟨hb5,v5,rfl,hs5,hf5⟩;have HS5:=Hm hs5;have HF5:=Hm hf5;have HC5:=Hm hb5;have HB5:=Hm (Qa HB4.o hb5);obtain⟨A5,c5,rfl,-⟩:=hs5;clear z0 z1 z2 z3 z4 z5 z6 z7 z8 z9;obtain⟨z0,z1,z2,z3,z4,z5,z6,z7,z8,z9⟩:=(HLX.o.below HB5.o).cells;rw[HHH.o.1] at z7;rw[HHH.o.2] at z8;clear hb5 hf5;go_wp2_with fail;refine (XR (first:=false) (HGX.o.1.below HB5.o) (HLX.o.wts.sl.below HB5.o) HS5.o HY.o.1 HXP.o.2.2.1 (by have:=HBX.o;omega) (by have:=HY.o.2;omega) (by have:=HXP.o.2.2.2;have:=HSEEN.o;omega)).mono ?_;rintro e' w6 ⟨hb6,v6,rfl,hs6,hf6⟩;have HS6:=Hm hs6;have HF6:=Hm hf6;have HC6:=Hm hb6;have HB6:=Hm (Qa HB5.o hb6);obtain⟨A6,c6,rfl,-⟩:=hs6;clear z0 z1 z2 z3 z4 z5 z6 z7 z8 z9;obtain⟨z0,z1,z2,z3,z4,z5,z6,z7,z8,z9⟩:=(HLX.o.below HB6.o).cells;rw[HHH.o.1] at z7;rw[HHH.o.2] at z8;clear hb6 hf6;go_wp2_with fail;refine (XR (first:=true) (HGX.o.1.below HB6.o) (HS5.o.below HC6.o) (HLX.o.wts.sl.below HB6.o) HXP.o.2.2.1 HY.o.1 (by have:=HBX.o;omega) (by have:=HXP.o.2.2.2;have:=HSEEN.o;omega) (by have:=HY.o.2;omega)).mono ?_;rintro e' w8 ⟨hb8,v8,rfl,hs8,hf8⟩;have HS8:=Hm hs8;have HF8:=Hm hf8;have HC8:=Hm hb8;have HB8:=Hm (Qa HB6.o hb8);obtain⟨A8,c8,rfl,-⟩:=hs8;clear z0 z1 z2 z3 z4 z5 z6 z7 z8 z9;obtain⟨z0,z1,z2,z3,z4,z5,z6,z7,z8,z9⟩:=(HLX.o.below HB8.o).cells;rw[HHH.o.1] at z7;rw[HHH.o.2] at z8;clear hb8 hf8;have hfl:∀ j,F j→j<w3.heap.size:=HLX.o.flt;have HOX:=Hm (OpO.frs HS8.o (HF8.o.mono HB6.o.size) hfl);have HLY:=Hm (Qcl (HLX.o.below HB8.o) (HGX.o.below HB8.o (Grow.refl _ _)) HOX.o HVO.o.1 (by have:=HPL.o.1;omega) HPL.o.2 HDB.o.2);clear hfl;go_wp2_with fail;refine HLY.o.mono ?_;rintro e' w7 ⟨rfl,ho7,B,hB,hs7⟩;have HO7:Hd (Only (fun k=>k=f) w3 w7):=⟨(Only.of_below HB8.o).trans ho7⟩;have HS7:Hd (∃ B,w3.heap.size≤B∧ShF B w7 f C.unit (rap V C.doc)):=⟨B,Wbf HB8.o.size hB,hs7⟩;have HN7:Hd (Only (fun k=>k=f) w8 w7):=⟨ho7⟩;clear z0 z1 z2 z3 z4 z5 z6 z7 z8 z9 hB hs7 ho7;obtain⟨⟨z0,z1,z2,z3,z4,z5,z6,z7,z8,z9⟩,fz,lt7⟩:=HLX.o.cells_only HO7.o;go_wp2_with fail;go_ret;have hd:=Qu.done (C':=C.other e) (vw:=.slice A4 (trl false C.way e.op).length c4) (vt:=.slice A6 (trl false C.waits (trl true e.op C.way)).length c6) HLX.o HO7.o (by rw[HDOC.o];exact HS7.o) ⟨rfl,rfl,rfl,rfl,rfl,rfl⟩ (by rw[HH.o.1];exact OpO.fresh HLX.o.flt (Wak _) (((HS4.o.below HC5.o).below HC6.o).below HC8.o) HF4.o HN7.o (HLX.o.sub _ (.inr rfl))) (by rw[HH.o.2];exact OpO.fresh HLX.o.flt HB5.o.size (HS6.o.below HC8.o) HF6.o HN7.o (HLX.o.sub _ (.inr rfl)));rw[HSN.o] at hd;exact Qu.from_ HB3.o hd
end
section
open Go.RowKit Go.Sort
theorem Qoq {w:World}{F:Nat→Prop}{c:CP}{C:CV}{e:EN}{v:Value}{rev:Int}(h:CliR w F c C)(hr:rev≠C.rev) :
  Calls prog 255 #[.pointer (some ⟨c.a,0,none⟩),.int .i64 rev,.agg #[.int .i64 e.who,.int .i64 e.id,v]] w (Qu F c .nilIface C w):=by
 obtain⟨a,f,vw,vt⟩:=c;have HL:=Hm h;obtain⟨z0,z1,z2,z3,z4,z5,z6,z7,z8,z9⟩:=h.cells;have lt:=h.frozen.2;have hq:(rev == (C.rev:Int))=false:=by rw[Waf];exact hr
 clear h hr;go_enter func255,ntmps255
 go_wp2_with fail;go_ret;exact Qu.same HL.o (Qb (Wac _ _) _)
theorem Qu.mine {w w7:World}{F:Nat→Prop}{C:CV}{e:EN}{a f:Nat}{vw vt:Value}{b:Bool}{i0:Int}(h:CliR w F ⟨a,f,vw,vt⟩ C)(hb7:Below w.heap.size w w7)(hm:C.more=b)(hi:(C.own e).id=i0){w8:World}(ho:Only (fun k=>k=a) w7 w8)
  (hb:Blk w8 a 221 #[.int .i64 C.who,.pointer (some ⟨f,0,none⟩),.string ⟨(U.encs (C.own e).seen).toArray⟩,.int .i64 ((C.own e).rev:Int),.int .i64 i0,vt,.slice none 0 0,.bool b,.bool false,.int .i64 C.dropped]) :
  Qu F ⟨a,f,vw,vt⟩ .nilIface (C.own e) w (.returned .nilIface) w8:=by
 have h7:=h.below hb7;refine Qu.from_ hb7 (Qu.turn (vw:=vt) (vt:=.slice none 0 0) h7 (ho.mono (fun k _ e=>.inl e)) ?_ (h7.wts.only (ho.mono (fun k _ e=>by subst e;exact h.sub _ (.inl rfl))) (Grow.refl _ _)) (OpO.nil _ _) ?_)
 ·subst hm hi;exact hb
 ·exact h7.sh.only ho (fun j e=>by subst e;exact h.sub _ (.inl rfl)) (fun e=>h.ne e.symm) (Grow.refl _ _)
theorem Qor {w:World}{F:Nat→Prop}{c:CP}{C:CV}{e:EN}{v:Value}{T:Int}{Z:List (RU Int)}(h:CliR w F c C)(hg:Zn F w)(hk:COk T C)(hT:T≤1000000)(hrv:C.rev≤100000)(hx:OpO F w v e.op)(hf:Fit_ C e Z)(ho:C.isOwn e) :
  Calls prog 255 #[.pointer (some ⟨c.a,0,none⟩),.int .i64 (C.rev:Int),.agg #[.int .i64 e.who,.int .i64 e.id,v]] w (Qu F c .nilIface (C.own e) w):=by
 obtain⟨W0,hW0⟩:∃ W,W=w.alloc (.cells #[.int .i64 e.who,.int .i64 e.id,v] 300):=⟨_,rfl⟩;have hb0:Below w.heap.size w W0:=by rw[hW0];exact Qb (Wac _ _) _
 have hbx:Blk W0 w.heap.size 300 #[.int .i64 e.who,.int .i64 e.id,v]:=by rw[hW0];exact Blk.new _ _ _
 have HSEEN:Hd (bl C.seen≤2000∧Qd e.op≤2000∧e.op.length≤4000):=⟨by
  have:=hf.op.bounds;have:=hf.sz;have:=hk.sz
  have:=Xh (fun p hp=>(hf.op.arg p hp).1);have:=hf.op.sizes.1
  omega⟩
 have hop:=hf.own ho;obtain⟨Av,cv,hv,-⟩:=hx.sl;subst hv;obtain⟨a,f,vw,vt⟩:=c;obtain⟨Aw,cw,hvw,-⟩:=h.way.sl;obtain⟨At,ct,hvt,-⟩:=h.wts.sl;dsimp only at hvw hvt ⊢;subst hvw hvt;have hws:=h.way.sl;dsimp only at hws;rw[← hop] at hws;have HWS:=Hm hws;have HW0:=Hm hW0;have HB0:=Hm hb0;have HBX:=Hm hbx;have HL:=Hm h;have HG:=Hm hg;have HX:=Hm hx;have HF:=Hm hf;have HO:=Hm ho;have HK:=Hm hk;have HSN:Hd ((C.own e).seen=rap Z C.seen):=⟨YG hf.op hk.all⟩;have HID:Hd (-1≤C.id∧C.id≤1000000):=⟨by have:=hk.id1;omega⟩;obtain⟨z0,z1,z2,z3,z4,z5,z6,z7,z8,z9⟩:=h.cells;have lt:=h.frozen.2;have HOP:=Hm (congrArg List.length hop);clear hb0 hbx h hg hx hf ho hk hW0 hop hws;go_enter func255,ntmps255
 go_upto_region 3 with fail
 rw[← HW0.o];obtain⟨y0,y1,y2,y3,y4,y5,y6,y7,y8,y9⟩:=(HL.o.below HB0.o).cells;obtain⟨b0,b1,b2⟩:=Zq HBX.o
 have hqA:∀ d os,Calls prog 294 #[.slice Av e.op.length cv,.string ⟨(U.encs C.seen).toArray⟩] (grow (redrawn W0 d) os) fun e' w''=>e'=.returned (.tuple #[.string ⟨(U.encs (rap Z C.seen)).toArray⟩,.nilIface])∧∃ p:Regrown,w''=grow (redrawn W0 p.d) p.os:=fun d os =>
  Calls.regrown_of (Qc1 (HG.o.1.below (Qa HB0.o (below_regrown W0 d os))) (HX.o.sl.below (Qa HB0.o (below_regrown W0 d os))) HF.o.op HK.o.all (by have:=HSEEN.o;omega) (by have:=HSEEN.o;omega))
 have k2:=cell_regrown y2;have kb2:=cell_regrown b2;refine wp_region_quiet_below (by kernel_rfl) (by kernel_rfl) ?_
 repeat (quiet_step (exact hqA _ _))
 refine wpQuiet_nil ?_;rintro _ ⟨⟨dq,oq⟩,rfl⟩;have hb1:=Qa HB0.o (below_regrown W0 dq oq);have hbx1:=HBX.o.below (below_regrown W0 dq oq) HBX.o.lt;generalize grow (redrawn W0 dq) oq=w1 at hb1 hbx1 ⊢;have HB1:=Hm hb1;clear hqA k2 kb2 y0 y1 y2 y3 y4 y5 y6 y7 y8 y9 b0 b1 b2 z0 z1 z2 z3 z4 z5 z6 z7 z8 z9;obtain⟨z0,z1,z2,z3,z4,z5,z6,z7,z8,z9⟩:=(HL.o.below hb1).cells;obtain⟨b0,b1,b2⟩:=Zq hbx1;have HBX1:=Hm hbx1;have lt1:a<w1.heap.size:=Wal lt hb1.size;clear hb1 hbx1;go_upto_region 6 with fail
 go_cut [55] from 34 to 55 (fun sv wx=>sv=.bool true∧Below w1.heap.size w1 wx)
 case first =>
  have hq1:(e.who == C.who)=true:=by rw[HO.o.1];exact beq_self_eq_true _
  have hid:(e.id == C.id)=true:=by rw[HO.o.2.2];exact beq_self_eq_true _
  rw[HO.o.2.1] at z7;go_quiet (fail)
  go_wp2
  go_meet
  exact⟨rfl,Qo nq (Wac _ _)⟩
 case rest =>
  obtain⟨rfl,hb2⟩:=hcut;obtain⟨w2,rfl⟩:∃ W,W=wc:=⟨_,rfl⟩;have hx2:=Qa HB1.o hb2;have HB2:=Hm hx2;clear z0 z1 z2 z3 z4 z5 z6 z7 z8 z9 b0 b1 b2;obtain⟨z0,z1,z2,z3,z4,z5,z6,z7,z8,z9⟩:=(HL.o.below hx2).cells;have lt2:a<w2.heap.size:=Wal lt hx2.size;clear hb2 hx2 lt1;go_upto_region 7 with fail
  rw[← HOP.o] at z5
  have hqA:∀ d os,Calls prog 294 #[.slice Aw e.op.length cw,.string ⟨(U.encs C.seen).toArray⟩] (grow (redrawn w2 d) os) fun e' w''=>e'=.returned (.tuple #[.string ⟨(U.encs (rap Z C.seen)).toArray⟩,.nilIface])∧∃ p:Regrown,w''=grow (redrawn w2 p.d) p.os:=fun d os =>
   Calls.regrown_of (Qc1 (HG.o.1.below (Qa HB2.o (below_regrown w2 d os))) (HWS.o.below (Qa HB2.o (below_regrown w2 d os))) HF.o.op HK.o.all (by have:=HSEEN.o;omega) (by have:=HSEEN.o;omega))
  have k2:=cell_regrown z2;have k5:=cell_regrown z5;refine wp_region_quiet_below (by kernel_rfl) (by kernel_rfl) ?_
  repeat (quiet_step (exact hqA _ _))
  refine wpQuiet_nil ?_;rintro _ ⟨⟨dq2,oq2⟩,rfl⟩;have hx3:=Qa HB2.o (below_regrown w2 dq2 oq2);generalize grow (redrawn w2 dq2) oq2=w3 at hx3 ⊢;clear HB2 HBX1 HB1 HB0 HBX HW0 z0 z1 z2 z3 z4 z5 z6 z7 z8 z9 lt2 hqA k2 k5;have HB3:=Hm hx3;obtain⟨z0,z1,z2,z3,z4,z5,z6,z7,z8,z9⟩:=(HL.o.below hx3).cells;obtain⟨fz,lt3⟩:=(HL.o.below hx3).frozen;have HBK:Hd (Blk w3 a 221 _):=⟨(HL.o.below hx3).blk⟩;clear hx3;go_upto_region 11 with fail
  have hn:=(HBK.o.set_ 2 (.string ⟨(U.encs (rap Z C.seen)).toArray⟩)).set_ 3 (.int .i64 ((C.rev:Int)+1));have hO:Only (fun k=>k=a) w3 ((w3.setCell ⟨a,2,none⟩ (.string ⟨(U.encs (rap Z C.seen)).toArray⟩)).setCell ⟨a,3,none⟩ (.int .i64 ((C.rev:Int)+1))):=((Only.refl (fun k=>k=a) w3).setCell (p:=⟨a,2,none⟩) (.inl rfl) _).setCell (p:=⟨a,3,none⟩) (.inl rfl) _;generalize (w3.setCell ⟨a,2,none⟩ (.string ⟨(U.encs (rap Z C.seen)).toArray⟩)).setCell ⟨a,3,none⟩ (.int .i64 ((C.rev:Int)+1))=w4 at hn hO ⊢;clear z0 z1 z2 z3 z4 z5 z6 z7 z8 z9 fz lt3;have HN:=Hm hn;have HO4:=Hm hO;obtain⟨z0,z1,z2,z3,z4,z5,z6,z7,z8,z9⟩:=ZM hn;have fz:=hn.frozen;have lt4:=hn.lt;clear hn hO
  go_cut [] from 85 to 98 (fun wx=>wx=((w4.setCell ⟨a,5,none⟩ (.slice At C.waits.length ct)).setCell ⟨a,7,none⟩ (.bool C.more)).drew)
  case first =>
   go_region
   all_goals
    go_wp2
    go_meet
    rfl
  case rest =>
   subst hcut;have hn:=(HN.o.set_ 5 (.slice At C.waits.length ct)).set_ 7 (.bool C.more);have hO:Only (fun k=>k=a) w4 ((w4.setCell ⟨a,5,none⟩ (.slice At C.waits.length ct)).setCell ⟨a,7,none⟩ (.bool C.more)):=((Only.refl (fun k=>k=a) w4).setCell (p:=⟨a,5,none⟩) (.inl rfl) _).setCell (p:=⟨a,7,none⟩) (.inl rfl) _;have hn:=hn.below (Qe (Wac _ _)) hn.lt;have hO:=hO.drew;generalize ((w4.setCell ⟨a,5,none⟩ (.slice At C.waits.length ct)).setCell ⟨a,7,none⟩ (.bool C.more)).drew=w5 at hn hO ⊢;clear z0 z1 z2 z3 z4 z5 z6 z7 z8 z9 fz lt4;have HN5:=Hm hn;have HO5:=Hm hO;obtain⟨z0,z1,z2,z3,z4,z5,z6,z7,z8,z9⟩:=ZM hn;have fz:=hn.frozen;have lt5:=hn.lt;have hO2:Only (fun k=>k=a) w5 ((w5.setCell ⟨a,6,none⟩ (.slice none 0 0)).setCell ⟨a,8,none⟩ (.bool false)):=((Only.refl (fun k=>k=a) w5).setCell (p:=⟨a,6,none⟩) (.inl rfl) _).setCell (p:=⟨a,8,none⟩) (.inl rfl) _;have hn2:=(hn.set_ 6 (.slice none 0 0)).set_ 8 (.bool false);have HO6:=Hm hO2;have HN6:=Hm hn2;clear hn hO hO2 hn2
   cases hm:C.more
   ·rw[hm] at z7;have HM:=Hm hm;clear hm;go_wp2_with fail;go_ret;have hn:=HN6.o;rw[HM.o] at hn;refine Qu.mine (b:=false) (i0:=C.id) HL.o HB3.o HM.o (by unfold CV.own;dsimp only;rw[HM.o];rfl) ((HO4.o.trans HO5.o).trans HO6.o) ?_;rw[HSN.o];exact hn
   ·rw[hm] at z7;have HM:=Hm hm;have HI:=HID.o;clear hm;go_wp2_with fail;go_ret;have hn:=HN6.o.set_ 4 (.int .i64 (C.id+1));rw[HM.o] at hn;refine Qu.mine (b:=true) (i0:=C.id+1) HL.o HB3.o HM.o (by unfold CV.own;dsimp only;rw[HM.o];rfl) (((HO4.o.trans HO5.o).trans HO6.o).setCell (p:=⟨a,4,none⟩) (.inl rfl) (.int .i64 (C.id+1))) ?_;rw[HSN.o];exact hn
theorem Qos {w:World}{F:Nat→Prop}{c:CP}{C:CV}{id:Int}(h:CliR w F c C)(hr:¬ (C.has=true∧id=C.id)) :
  Calls prog 256 #[.pointer (some ⟨c.a,0,none⟩),.int .i64 id] w (Qu F c (.tuple #[]) C w):=by
 obtain⟨a,f,vw,vt⟩:=c;have HL:=Hm h;obtain⟨z0,z1,z2,z3,z4,z5,z6,z7,z8,z9⟩:=h.cells;have lt:=h.frozen.2;clear h
 cases hh:C.has
 ·rw[hh] at z7;clear hh hr;go_enter func256,ntmps256
  go_wp2_with fail;go_end0;exact Qu.same HL.o (Wac _ _)
 ·rw[hh] at z7;have hq:(id == C.id)=false:=by rw[Waf];exact fun e=>hr ⟨hh,e⟩
  clear hh hr;go_enter func256,ntmps256
  go_wp2_with fail;go_end0;exact Qu.same HL.o (Wac _ _)
theorem ShF.only {w w':World}{S:Nat→Prop}{B f:Nat}{u:Int}{R:List Int}(h:ShF B w f u R)(ho:Only S w w')(hs:∀ k,S k→k<B)(hf:¬ S f):ShF B w' f u R:=by
 obtain⟨t,vh,vr,a,b,c,d⟩:=h.ex
 exact⟨h.all,h.u1,h.sz,t,vh,vr,a.only ho hf,b.frs c d ho hs,c,d⟩
theorem ShF.below {w w':World}{B f:Nat}{u:Int}{R:List Int}(h:ShF B w f u R)(hb:Below w.heap.size w w'):ShF B w' f u R:=h.only (S:=fun _=>False) (Only.of_below hb) (fun _ e=>e.elim) (fun e=>e)
def Qot (a:Nat)(C:CV)(vw vt:Value)(w wx:World):Prop :=
 ∃ f',Only (fun k=>k=a) w wx∧Blk wx a 221 #[.int .i64 C.who,.pointer (some ⟨f',0,none⟩),.string ⟨(U.encs C.seen).toArray⟩,.int .i64 (C.rev:Int),.int .i64 C.id,vw,vt,.bool true,.bool C.more,.int .i64 C.dropped] ∧
  w.heap.size≤f'∧f'<wx.heap.size∧ShF (f'+1) wx f' C.unit C.seen
theorem Qou {w:World}{F:Nat→Prop}{c:CP}{C:CV}{T:Int}(h:CliR w F c C)(hk:COk T C)(hT:T≤1000000)(hr:C.has=true) :
  Calls prog 256 #[.pointer (some ⟨c.a,0,none⟩),.int .i64 C.id] w (Qu F c (.tuple #[]) (C.refused C.id) w):=by
 obtain⟨a,f,vw,vt⟩:=c;obtain⟨Aw,cw,hvw,-⟩:=h.way.sl;obtain⟨At,ct,hvt,-⟩:=h.wts.sl;dsimp only at hvw hvt ⊢;subst hvw hvt;have HL:=Hm h;have HK:=Hm hk;obtain⟨z0,z1,z2,z3,z4,z5,z6,z7,z8,z9⟩:=h.cells;obtain⟨fz,lt⟩:=h.frozen;rw[hr] at z7;have HBK:Hd (Blk w a 221 _):=⟨h.blk⟩;have HU:=fun W hb=>Hm (Qcn (h.sh.shs.below hb:ShS W f C.unit C.doc))
 have HSH:=fun W=>Hm (Qfe (u:=C.unit) (Qck hk.all) (by show bl C.seen≤_;have:=hk.sz;omega) W)
 have HR:=Hm hr;have HU1:=Hm (Wao hk.u hk.sz);have HDR:Hd (-1≤C.dropped∧C.dropped≤1000000):=⟨by have:=hk.dr;omega⟩;clear h hk hr;go_enter func256,ntmps256
 go_upto_region 1 with fail
 go_cut [] from 17 to 32 (fun wx=>Qot a C (.slice Aw C.way.length cw) (.slice At C.waits.length ct) w wx)
 case first =>
  go_region_law (first
   | (go_simp;refine ((HU _ (Qe (Wac _ _))).out).mono ?_;rintro e w1 ⟨rfl,rfl⟩)
   | (go_simp;refine ((HSH _).out).mono ?_;rintro e w5 ⟨hb5,-,-,-,h5⟩;obtain⟨f5,rfl,hf5,hs5⟩:=h5 HU1.o.1 rfl (by have:=HU1.o.2;omega);have hx5:Below w.heap.size w w5:=(Qe (Wac _ _)).trans hb5;have hf6:w.heap.size≤f5:=hf5;have H5:=Hm (Wao hx5 (Wao hf6 hs5));obtain⟨y0,y1,y2,y3,y4,y5,y6,y7,y8,y9⟩:=(HL.o.below hx5).cells;obtain⟨yf,yl⟩:=(HL.o.below hx5).frozen;clear hb5 h5 hx5 hf5 hf6 hs5))
  all_goals
   go_wp2
   go_meet
   have hO:Only (fun k=>k=a) w5 (w5.setCell ⟨a,1,none⟩ (.pointer (some ⟨f5,0,none⟩))):=(Only.refl (fun k=>k=a) w5).setCell (p:=⟨a,1,none⟩) (.inl rfl) _;have hlt:=HL.o.frozen.2;refine⟨f5,(Only.of_below H5.o.1).trans hO,?_,H5.o.2.1,?_,H5.o.2.2.only hO (fun k e=>by have:=H5.o.2.1;omega) (fun e=>by have:=H5.o.2.1;omega)⟩
   ·have hn:=(HBK.o.below H5.o.1 hlt).set_ 1 (.pointer (some ⟨f5,0,none⟩));unfold CP.cells at hn;rw[HR.o] at hn;exact hn
   ·obtain⟨t,vh,vr,hb,-⟩:=H5.o.2.2.ex
    have:=hb.lt
    simpa using this
 case rest =>
  obtain⟨f5,hO,hn,h1,h2,h3⟩:=hcut;obtain⟨w6,rfl⟩:∃ W,W=wc:=⟨_,rfl⟩;have HO6:=Hm hO;have HN6:=Hm hn;have HS6:=Hm (Wao h1 (Wao h2 h3));clear z0 z1 z2 z3 z4 z5 z6 z7 z8 z9 fz lt hO h1 h2 h3;obtain⟨z0,z1,z2,z3,z4,z5,z6,z7,z8,z9⟩:=ZM hn;have fz:=hn.frozen;have lt:=hn.lt;have HI:=HDR.o;clear hn;go_wp2_with fail;go_end0
  have hC:C.refused C.id={ C with doc:=C.seen,has:=false,more:=false,way:=[],waits:=[],dropped:=C.dropped+1 }:=by
   unfold CV.refused;rw[if_pos ⟨HR.o,rfl⟩]
  have hn:=((((HN6.o.set_ 5 (.slice none 0 0)).set_ 6 (.slice none 0 0)).set_ 7 (.bool false)).set_ 8 (.bool false)).set_ 9 (.int .i64 (C.dropped+1))
  have hO:Only (fun k=>k=a) w6 (((((w6.setCell ⟨a,5,none⟩ (.slice none 0 0)).setCell ⟨a,6,none⟩ (.slice none 0 0)).setCell ⟨a,7,none⟩ (.bool false)).setCell ⟨a,8,none⟩ (.bool false)).setCell ⟨a,9,none⟩ (.int .i64 (C.dropped+1))) :=
   (((((Only.refl (fun k=>k=a) w6).setCell (p:=⟨a,5,none⟩) (.inl rfl) _).setCell (p:=⟨a,6,none⟩) (.inl rfl) _).setCell (p:=⟨a,7,none⟩) (.inl rfl) _).setCell (p:=⟨a,8,none⟩) (.inl rfl) _).setCell (p:=⟨a,9,none⟩) (.inl rfl) _
  have hlt:=HL.o.frozen.2;have hall:=HO6.o.trans hO;have hsz:=hO.size;rw[hC];refine⟨⟨a,f5,.slice none 0 0,.slice none 0 0⟩,rfl,hall.mono (fun k _ e=>.inl e),?_,rfl,fun F' k1 k2=>?_⟩
  ·rintro j (e | e)
   ·exact .inl (.inl e)
   ·exact .inr (by have:=HS6.o.1;dsimp only at e;omega)
  ·have kF:∀ j,F' j→j<f5∨j=f5:=fun j hj=>by
    rcases k1 j hj with e | e | e
    ·exact .inl (Wal (HL.o.flt j e) HS6.o.1)
    ·exact .inl (by dsimp only at e;have:=HS6.o.1;omega)
    ·exact .inr e
   refine⟨hn,OpO.nil _ _,OpO.nil _ _,(HS6.o.2.2.only hO (fun k e=>by have:=HS6.o.1;omega) (fun e=>by have:=HS6.o.1;omega)).sho (fun j hj=>by rcases kF j hj with e | e<;>omega),k2,fun j hj=>?_⟩
   have:=HS6.o.2.1
   rcases kF j hj with e | e<;>omega
def CV.new (who u:Int)(R:List Int):CV:=⟨who,u,R,R,0,0,[],[],false,false,0⟩
theorem COk.new {who u:Int}{R:List Int}(hu:1≤u∧u≤3)(hR:U.AllR R)(hb:bl R≤2000):COk 0 (CV.new who u R) :=
 ⟨hu,hR,hb,fun _=>⟨rfl,rfl,rfl⟩,fun _=>rfl,(fun e=>by cases e),⟨Wba _,Wba _⟩,⟨Wba _,Wba _⟩⟩
def Qov (who u:Int)(R:List Int)(w:World)(e:Ending)(w':World):Prop :=
 Below w.heap.size w w'∧(¬ (1≤u∧u≤3)→e=.returned (.tuple #[.pointer none,errno 1])) ∧
  (1≤u∧u≤3→∃ c:CP,e=.returned (.tuple #[.pointer (some ⟨c.a,0,none⟩),.nilIface])∧(∀ j,c.F j→w.heap.size≤j)∧(∀ F,(∀ j,c.F j→F j)→(∀ j,F j→c.F j∨j<w.heap.size)→CliR w' F c (CV.new who u R)))
theorem Qow {R:List Int}(hR:U.AllR R)(hb:bl R≤2000)(who u:Int)(w:World) :
  Calls prog 85 #[.int .i64 who,.int .i64 u,.string ⟨(U.encs R).toArray⟩] w (Qov who u R w):=by
 have HSH:=Hm (Qfe (u:=u) (Qck hR) (by show bl R≤_;omega) w);have HB:=Hm hb;clear hR hb
 by_cases hu:1≤u∧u≤3
 ·have HU:=Hm hu;clear hu;go_enter func85,ntmps85
  go_wp2_with fail;refine HSH.o.mono ?_;rintro e w1 ⟨hb1,-,-,-,h1⟩;obtain⟨f,rfl,hf,hs⟩:=h1 HU.o rfl (by have:=HB.o;omega);have HB1:=Hm hb1;have HS:=Hm (Wao hf hs);clear hb1 h1 hf hs;go_wp2_with fail;go_ret2;have hz:=HB1.o.size;have hfl:f<w1.heap.size:=by obtain⟨t,vh,vr,hb,-⟩:=HS.o.2.ex;exact hb.lt
  refine⟨Qb HB1.o _,fun h=>absurd HU.o h,fun _=>⟨⟨w1.heap.size,f,.slice none 0 0,.slice none 0 0⟩,rfl,?_,fun F k1 k2=>?_⟩⟩
  ·rintro j (e | e)
   ·dsimp only at e;omega
   ·have:=HS.o.1;dsimp only at e;omega
  ·have hx:Below w1.heap.size w1 (w1.alloc (.cells #[.int .i64 who,.pointer (some ⟨f,0,none⟩),.string ⟨(U.encs R).toArray⟩,.int .i64 0,.int .i64 0,.slice none 0 0,.slice none 0 0,.bool false,.bool false,.int .i64 0] 221)):=Qb (Wac _ _) _;have hs1:ShO (fun j=>j<f+1) w1 f u R:=HS.o.2.sho (fun j hj=>hj)
   have kF:∀ j,F j→j<f+1∨w1.heap.size≤j:=fun j hj=>by
    rcases k2 j hj with e | e
    ·rcases e with e | e
     ·exact .inr (by dsimp only at e;omega)
     ·exact .inl (by dsimp only at e;omega)
    ·exact .inl (by have:=HS.o.1;omega)
   refine⟨Blk.new w1 _ _,OpO.nil _ _,OpO.nil _ _,?_,k1,fun j hj=>?_⟩
   ·exact hs1.only (G:=fun _=>False) (Only.of_below hx) (fun _ e=>e.elim) (fun e=>e) kF
   ·rw[Waq];rcases k2 j hj with e | e
    ·rcases e with e | e
     ·dsimp only at e;omega
     ·dsimp only at e;omega
    ·omega
 ·have HU:=Hm hu;clear hu;go_enter func85,ntmps85
  go_wp2_with fail;refine HSH.o.mono ?_;rintro e w1 ⟨hb1,h1,-⟩;obtain rfl:=h1 HU.o;unfold errno;have HB1:=Hm hb1;clear hb1 h1;go_wp2_with fail;go_ret2
  exact⟨HB1.o,fun _=>rfl,fun h=>absurd h HU.o⟩
end
section
open Go.RowKit
def RM.new (R:List Int)(us:List Int):RM:=⟨SV.new (U.encs R),us.zipIdx.map (fun p=>CV.new p.2 p.1 R),[],0⟩
theorem RM.new_cl {R us:List Int}{k:Nat}{c:CV}(h:(RM.new R us).cl[k]?=some c):∃ u,us[k]?=some u∧c=CV.new k u R:=by
 unfold RM.new at h;dsimp only at h;rw[Wav,List.getElem?_zipIdx] at h
 cases hu:us[k]? with
 | none=>rw[hu] at h;simp at h
 | some u=>rw[hu] at h;simp at h;exact⟨u,rfl,h.symm⟩
theorem RMok.new {R us:List Int}(hR:U.AllR R)(hb:bl R≤2000)(hu:∀ u∈us,1≤u∧u≤3):RMok 0 (RM.new R us)∧(RM.new R us).srv.No8:=by
 refine⟨⟨SVok.new hR hb,Nat.zero_le _,fun k c hc=>?_,(fun p hp=>by cases hp),Nat.zero_le _⟩,fun k i x hx=>by cases hx⟩;obtain⟨u,h1,rfl⟩:=RM.new_cl hc
 exact⟨rfl,COk.new (hu u (List.mem_of_getElem? h1)) hR hb,Nat.zero_le _,rfl,(fun n e _ he=>by cases he),(fun n e he=>by cases he),(fun i x hx=>by cases hx),(fun i x hx=>by cases hx)⟩
end
section
open Go.RowKit Go.Sort
theorem Qn2 {l:List PT}{m:Nat}(h:∀ p∈l,p.put.length≤m):Qd l≤m*l.length:=by
 induction l with
 | nil=>simp[Qd]
 | cons p l ih =>
  have h1:=h p (by simp);have h2:=ih (fun q hq=>h q (by simp[hq]));rw[Qd,Wan,Nat.mul_add];omega
section
attribute [local go_sem] Qz
theorem Qn3 (x y:Int)(z:U.Bs)(w:World):Calls prog 204 #[.agg #[.int .i64 x,.int .i64 y,.string ⟨z.toArray⟩]] w fun e w'=>e=.returned (.bool (decide (200<z.length)))∧Below w.heap.size w w':=by
 go_enter func204,ntmps204
 go_wp2_with fail;go_ret;have e:decide ((200:Int)<(z.length:Int))=decide (200<z.length):=decide_eq_decide.2 ⟨fun h=>by omega,fun h=>by omega⟩
 exact⟨congrArg (fun b=>Ending.returned (Value.bool b)) e,Qb (Wac _ _) _⟩
theorem Qn4 {l:List PT}{v:Value}{n:Nat}{w:World}(hsl:Sl w 3 v n (opv l))(hn:n≤100000) :
  Calls prog 257 #[v,.func (.func 204) #[] #[]] w fun e w'=>(∃ k:Int,e=.returned (.int .i64 k)∧(0≤k↔∃ p∈l,200<p.put.length))∧Below w.heap.size w w':=by
 have hln:l.length=n:=by have:=hsl.len;rw[Zw] at this;omega
 have HSL:=Hm hsl;have HLN:=Hm hln;obtain⟨A,c,rfl,-⟩:=hsl;go_enter func257,ntmps257
 go_wp2_with fail
 go_loopw [8] (fun i wr=>∃ k:Nat,k≤n∧i=.int .i64 k∧(∀ p∈l.take k,¬ 200<p.put.length)∧Below w.heap.size w wr) (fun i _=>n-(intOf i).toNat)
 case atStart=>exact⟨0,by omega,rfl,by simp,(by repeat (first | exact Wac _ _ | exact Qe (by assumption) | apply Qe | apply Qo | apply Qb | assumption))⟩
 case round =>
  obtain⟨k,hk,rfl,hall,hbel⟩:=hrel;have HB:=Hm hbel;have HALL:=Hm hall;clear hall
  by_cases hkn:k<n
  ·obtain⟨b,o,c',hv,hlt,c0,c1,c2⟩:=(HSL.o.below hbel).part hkn (by omega)
   cases hv
   have hkl:k<l.length:=by omega
   have HNX:Hd (¬ 200<l[k].put.length→∀ p∈l.take (k+1),¬ 200<p.put.length):=⟨fun h p hp=>by
    rw[Wag (by omega),List.mem_append] at hp;rcases hp with hp | hp
    ·exact HALL.o p hp
    ·obtain rfl:=Wbd.1 hp;exact h⟩
   have HIN:Hd (l[k]∈l):=⟨Wau _⟩;clear hbel HALL;generalize l[k]=q at *;obtain⟨x,y,z⟩:=q;dsimp only at c0 c1 c2;go_wp2_with fail;refine (Qn3 x y z _).mono ?_;rintro e w2 ⟨rfl,hb2⟩;have HB2:=Hm (Qa HB.o hb2);clear hb2
   by_cases hz:200<z.length
   ·have hd:decide (200<z.length)=true:=decide_eq_true hz;rw[hd];have HZ:=Hm hz;clear hd hz;go_wp2_with fail;go_ret
    exact⟨⟨_,rfl,⟨fun _=>⟨_,HIN.o,HZ.o⟩,fun _=>by omega⟩⟩,HB2.o⟩
   ·have hd:decide (200<z.length)=false:=decide_eq_false hz;rw[hd];have HZ:=Hm hz;clear hd hz;go_wp2_with fail
    exact⟨⟨k+1,by omega,by go_num,HNX.o HZ.o,HB2.o⟩,by simp only[intOf];omega⟩
  ·obtain rfl:k=n:=by omega
   clear hbel;go_wp2_with fail;go_ret;refine⟨⟨_,rfl,⟨fun h=>by omega,fun⟨p,hp,h⟩=>absurd h (HALL.o p (by rw[← HLN.o,Wbe];exact hp))⟩⟩,HB.o⟩
theorem Qn5 {l:List PT}{v:Value}{n:Nat}{w:World}(hsl:Sl w 3 v n (opv l))(hn:n≤100000) :
  Calls prog 203 #[v,.func (.func 204) #[] #[]] w fun e w'=>(∃ b:Bool,e=.returned (.bool b)∧(b=true↔∃ p∈l,200<p.put.length))∧Below w.heap.size w w':=by
 have HI:=Hm (Qn4 hsl hn);obtain⟨A,c,rfl,-⟩:=hsl;go_enter func203,ntmps203
 go_wp2_with fail;refine HI.o.mono ?_;rintro e w1 ⟨⟨k,rfl,hk⟩,hb1⟩;have HK:=Hm hk;have HB:=Hm hb1;clear hk hb1;go_wp2_with fail;go_ret
 exact⟨⟨_,rfl,by rw[← HK.o];exact decide_eq_true_iff⟩,HB.o⟩
end
end
section
open Go.RowKit Go.Sort
theorem Qu.gen {w w7 w8:World}{F:Nat→Prop}{C C':CV}{a f:Nat}{vw vt vw' vt' ev:Value}(h:CliR w F ⟨a,f,vw,vt⟩ C)(ho:Only (fun k=>k=f) w w7)(hs:∃ B,w.heap.size≤B∧ShF B w7 f C.unit C'.doc)(hu:C'.unit=C.unit)(h1:OpO F w7 vw' C'.way)(h2:OpO F w7 vt' C'.waits)
  (ho8:Only (fun k=>k=a) w7 w8) (hb:Blk w8 a 221 (CP.cells ⟨a,f,vw',vt'⟩ C')):Qu F ⟨a,f,vw,vt⟩ ev C' w (.returned ev) w8:=by
 obtain⟨B,hB,hs⟩:=hs;have hne:=h.ne;have hca:∀ j,j=a→F j:=fun j e=>h.sub j (.inl e)
 refine Qu.turn h ((ho.mono (fun k _ e=>.inr e)).trans (ho8.mono (fun k _ e=>.inl e))) hb (h1.only (ho8.mono (fun k _=>hca k)) (Grow.refl _ _)) (h2.only (ho8.mono (fun k _=>hca k)) (Grow.refl _ _)) ?_;rw[hu];exact (hs.sho (fun j hj=>Wal (h.flt j hj) hB)).only ho8 hca (fun e=>hne e.symm) (Grow.refl _ _)
section
attribute [local go_sem] Cn.v_eq XP
theorem Qu1 {w:World}{F:Nat→Prop}{c:CP}{C:CV}{T:Int}{l:List PT}{v:Value}(h:CliR w F c C)(hg:Zn F w)(hk:COk T C)(hT:T≤1000000)(hx:OpO F w v l)(hn:l.length≤100000) :
  Calls prog 145 #[.pointer (some ⟨c.a,0,none⟩),v] w (Qu F c (Q4 (C.edit l).1) (C.edit l).2 w):=by
 obtain⟨a,f,vw,vt⟩:=c;obtain⟨Aw,cw,hvw,-⟩:=h.way.sl;obtain⟨At,ct,hvt,-⟩:=h.wts.sl;dsimp only at hvw hvt ⊢;subst hvw hvt;obtain⟨Av,cv,hv,-⟩:=hx.sl;subst hv;have HL:=Hm h;have HG:=Hm hg;have HK:=Hm hk;have HX:=Hm hx;obtain⟨z0,z1,z2,z3,z4,z5,z6,z7,z8,z9⟩:=h.cells;obtain⟨fz,lt⟩:=h.frozen;have HD:=Hm hk.doc_;clear h hg hk hx
 by_cases h60:60<l.length
 ·have HE:Hd (C.edit l=(4,C)):=⟨by unfold CV.edit;rw[if_pos (.inl h60)]⟩;have hi:(60:Int)<(l.length:Int):=by omega
  go_enter func145,ntmps145
  go_wp2_with fail;go_ret;rw[HE.o];exact Qu.same HL.o (Wac _ _)
 have hi:¬ (60:Int)<(l.length:Int):=by omega
 have HC:=Hm (Qn5 HX.o.sl hn)
 by_cases hbig:∃ p∈l,200<p.put.length
 ·have HE:Hd (C.edit l=(4,C)):=⟨by unfold CV.edit;rw[if_pos (.inr hbig)]⟩;have HBG:=Hm hbig;clear hbig;go_enter func145,ntmps145
  go_wp2_with (go_at_call 203;refine HC.o.mono ?_;rintro e w1 ⟨⟨b,rfl,hb⟩,hb1⟩;have hbt:=hb.2 HBG.o;subst hbt;have HB1:=Hm hb1;clear hb hb1)
  go_ret;rw[HE.o];exact Qu.same HL.o HB1.o
 have HNB:=Hm hbig
 have HPL:Hd (Qd l≤12000∧l.length≤60):=⟨by
  have h1:∀ p∈l,p.put.length≤200:=fun p hp=>Nat.le_of_not_lt (fun e=>hbig ⟨p,hp,e⟩)
  have:=Qn2 h1
  omega⟩
 have HE0:Hd (¬ (60<l.length∨∃ p∈l,200<p.put.length)):=⟨fun e=>e.elim h60 hbig⟩;have HRP:=fun W=>Hm (Qf6 HD.o.1 (by have:=HD.o.2;omega) W)
 clear hbig h60;go_enter func145,ntmps145
 go_wp2_with (go_at_call 203;refine HC.o.mono ?_;rintro e w1 ⟨⟨b,rfl,hb⟩,hb1⟩;have hbt:b=false:=(by cases b with | false=>rfl | true=>exact absurd (hb.1 rfl) HNB.o);subst hbt;have HB1:=Hm hb1;clear hb hb1 z0 z1 z2 z3 z4 z5 z6 z7 z8 z9;obtain⟨z0,z1,z2,z3,z4,z5,z6,z7,z8,z9⟩:=(HL.o.below HB1.o).cells)
 refine (Qco (HL.o.below HB1.o).sh.shs).mono ?_;rintro e w2 ⟨rfl,hb2⟩;have HB2:=Hm (Qa HB1.o hb2);clear hb2;go_wp2_with fail;refine (HRP _).out.mono ?_;rintro e w3 ⟨hb3,p,t,rfl,hat,hgd,hrt⟩;have HB3:=Hm (Qa HB2.o hb3);have HAT:=Hm hat
 have HGD:=Hm hgd;have HRT:=Hm hrt;clear hb3 hat hgd hrt z0 z1 z2 z3 z4 z5 z6 z7 z8 z9;obtain⟨z0,z1,z2,z3,z4,z5,z6,z7,z8,z9⟩:=(HL.o.below HB3.o).cells;go_wp2_with fail;refine (Qcn (HL.o.below HB3.o).sh.shs).mono ?_;rintro e w4 ⟨rfl,rfl⟩;go_wp2_with fail;refine (Qwh (R:=C.doc) (u:=C.unit) HAT.o HGD.o HRT.o.symm (HG.o.1.below HB3.o) (HX.o.sl.below HB3.o) (fun p hp=>by have:=Qjr hp;have:=HPL.o.1;omega) (by omega)).mono ?_;rintro e w5 ⟨⟨hb5,v5,o,k,rfl,hs5,ht5⟩,hf5⟩;obtain⟨ho,hk⟩:=Qsc ht5;have HB5:=Hm (Qa HB3.o hb5);have HC5:=Hm hb5;have HO:=Hm (Wao ho hk);have HT5:=Hm ht5;have HS5:=Hm hs5;have HF5:=Hm (hf5 _ _ rfl);obtain⟨A5,c5,rfl,-⟩:=hs5;clear hb5 ht5 hf5 ho hk z0 z1 z2 z3 z4 z5 z6 z7 z8 z9
 by_cases hk0:k=0
 ·subst hk0;obtain⟨⟨X,hX⟩,hpo,hlo,-⟩:=Qct HK.o.u HT5.o
  have HE1:Hd (C.edit l=if 2000<comes o then (12,C) else (0,{ C with
   doc:=rpl o C.doc
   id:=if C.has then C.id else C.id+1
   way:=if C.has then C.way else o
   has:=true
   waits:=if C.has then (if C.more then cml C.waits o else o) else C.waits
   more:=C.has })):=⟨by unfold CV.edit;rw[if_neg HE0.o,← HO.o.2,← HO.o.1,if_neg (fun h=>h rfl)]⟩
  have HX1:=Hm (Wao hX (Wao hpo hlo));have hw1:=hX.sizes.1;have hw2:=hX.sizes.2;have hwb:=hX.bounds;have hdb:=HD.o.2;have HW1:Hd (wrap64 (was o)=(bl C.doc:Int)):=⟨by rw[hw1];exact YK (by omega) (by omega)⟩;have HW2:Hd (wrap64 (comes o)=comes o):=⟨YK (by omega) (by have:=HPL.o;omega)⟩;have HRPL:=Hm (YG hX HD.o.1);rw[show erV 0=Value.nilIface from rfl];clear hX hpo hlo hw1 hwb;go_wp2_with fail;refine (Xm HS5.o).mono ?_;rintro e w6 ⟨rfl,hb6⟩;rw[HW1.o,HW2.o];have HC6:=Hm (Qa HC5.o hb6);have HS6:=Hm (HS5.o.below hb6);have HB6:=Hm (Qa HB5.o hb6);clear hb6
  by_cases hbig:2000<comes o
  ·have HE2:=Hm (HE1.o.trans (if_pos hbig));clear hw2;go_wp2_with fail;go_ret;rw[HE2.o];exact Qu.same HL.o HB6.o
  ·have HE2:=Hm (HE1.o.trans (if_neg hbig));have HCB:Hd ((cnt t.runes).b=(bl C.doc:Int)):=⟨by rw[HRT.o];exact ZH C.doc⟩;have HBR:Hd (bl (rap X C.doc)≤2000):=⟨by omega⟩;clear hw2;go_wp2_with (go_at_call 209;refine (YB (HAT.o.below HC6.o)).mono ?_;rintro e w7 ⟨rfl,hb7⟩;rw[Cn.v_eq,HCB.o];have HB7:=Hm (Qa HB6.o hb7);have HS7:=Hm (HS6.o.below hb7);clear hb7;obtain⟨z0,z1,z2,z3,z4,z5,z6,z7,z8,z9⟩:=(HL.o.below HB7.o).cells)
   refine (Qjd (HL.o.below HB7.o).sh.shs (HG.o.1.below HB7.o) (HX.o.sl.below HB7.o) (by have:=HPL.o;omega) (by omega)).mono ?_;rintro e w8 ⟨ho8,h8⟩
   have hfin:e=.returned .nilIface∧ShF w7.heap.size w8 f C.unit (rpl o C.doc):=by
    rcases h8 with ⟨k,hk,-,-,hu⟩ | ⟨O,X',hO,-,-,hu,-,hh⟩
    ·exact absurd (hu _ _ HT5.o).symm hk
    ·obtain⟨e1,-⟩:=hu _ _ HT5.o;subst e1;have e2:rap X' C.doc=rpl o C.doc:=(YG hO HD.o.1).symm;rw[e2,HRPL.o] at hh;rcases hh with ⟨h8,-⟩ | ⟨-,he,hs⟩
     ·exact absurd HBR.o (by omega)
     ·rw[HRPL.o];exact⟨he,hs⟩
   obtain⟨rfl,hs8⟩:=hfin;have HO8:Hd (Only (fun k=>k=f) w w8):=⟨(Only.of_below HB7.o).trans ho8⟩;have HN8:=Hm ho8;have HF8:Hd (∃ B,w.heap.size≤B∧ShF B w8 f C.unit (rpl o C.doc)):=⟨_,HB7.o.size,hs8⟩;have HOO:Hd (OpO F w8 (.slice A5 o.length c5) o):=⟨OpO.fresh HL.o.flt HB3.o.size HS7.o HF5.o ho8 (HL.o.sub _ (.inr rfl))⟩;have HWO:Hd (OpO F w8 (.slice Aw C.way.length cw) C.way):=⟨HL.o.way.still HO8.o (HL.o.sub _ (.inr rfl))⟩;have HTO:Hd (OpO F w8 (.slice At C.waits.length ct) C.waits):=⟨HL.o.wts.still HO8.o (HL.o.sub _ (.inr rfl))⟩;clear ho8 h8 hs8 z0 z1 z2 z3 z4 z5 z6 z7 z8 z9 fz lt;have hb8:Blk w8 a 221 (CP.cells ⟨a,f,.slice Aw C.way.length cw,.slice At C.waits.length ct⟩ C):=HL.o.blk.only HO8.o HL.o.ne;have HBK:=Hm hb8;obtain⟨z0,z1,z2,z3,z4,z5,z6,z7,z8,z9⟩:=ZM hb8;have fz:=hb8.frozen;have lt:=hb8.lt;have hid:=HK.o.id1;clear hb8;dsimp only at z0 z1 z2 z3 z4 z5 z6 z7 z8 z9 fz lt
   cases hh:C.has
   ·rw[hh] at z7;have HH:=Hm hh;have hi1:-1≤C.id∧C.id≤1000000:=by split at hid<;>omega
    clear hh hid;go_wp2_with fail;go_ret;have hE:=HE2.o;have hm:=(HK.o.no HH.o).1;rw[HH.o,hm] at hE;simp only[Bool.false_eq_true,if_false] at hE;rw[hE];have hn:=((HBK.o.set_ 4 (.int .i64 (C.id+1))).set_ 5 (.slice A5 o.length c5)).set_ 7 (.bool true);unfold CP.cells at hn;rw[hm] at hn;exact Qu.gen HL.o HO8.o HF8.o rfl HOO.o HTO.o ((((Only.refl (fun k=>k=a) w8).setCell (p:=⟨a,4,none⟩) (.inl rfl) _).setCell (p:=⟨a,5,none⟩) (.inl rfl) _).setCell (p:=⟨a,7,none⟩) (.inl rfl) _) hn
   ·cases hm:C.more
    ·rw[hh] at z7;rw[hm] at z8;have HH:=Hm (Wao hh hm);clear hh hm hid;go_wp2_with fail;go_ret;have hE:=HE2.o;rw[HH.o.1,HH.o.2] at hE;simp only[Bool.false_eq_true,if_false,if_true] at hE;rw[hE];have hn:=(HBK.o.set_ 6 (.slice A5 o.length c5)).set_ 8 (.bool true);unfold CP.cells at hn;rw[HH.o.1] at hn;exact Qu.gen HL.o HO8.o HF8.o rfl HWO.o HOO.o (((Only.refl (fun k=>k=a) w8).setCell (p:=⟨a,6,none⟩) (.inl rfl) _).setCell (p:=⟨a,8,none⟩) (.inl rfl) _) hn
    ·rw[hh] at z7;rw[hm] at z8;have HH:=Hm (Wao hh hm);obtain⟨X1,hX1,hp1,-,hy1⟩:=HK.o.yes hh;obtain⟨Y1,hY1,hq1,hd1⟩:=hy1 hm;have hXo:=HX1.o.1;rw[hd1] at hXo;have HCM:=Hm (Qql (w:=w8) (va:=.slice At C.waits.length ct) (vb:=.slice A5 o.length c5) (HG.o.only (HO8.o.mono (fun k _ e=>by subst e;exact HL.o.sub _ (.inr rfl))) (Grow.refl _ _)).1 HTO.o.sl HOO.o.sl hY1 hXo (by have:=hX1.bounds;have:=HK.o.sz;omega) (by omega) (by have:=Qbg HX1.o.1.args;omega));clear hh hm hid hX1 hp1 hy1 hY1 hq1 hd1 hXo;go_wp2_with fail;refine HCM.o.mono ?_;rintro e w9 ⟨hb9,v9,rfl,hs9,hf9⟩;have HS9:=Hm hs9;have HF9:=Hm hf9;have HB9:=Hm hb9;obtain⟨A9,c9,rfl,-⟩:=hs9;have hb8:=HBK.o.below hb9 HBK.o.lt;have HBK9:=Hm hb8;clear z0 z1 z2 z3 z4 z5 z6 z7 z8 z9 fz lt hb9 hf9;obtain⟨z0,z1,z2,z3,z4,z5,z6,z7,z8,z9⟩:=ZM hb8;have fz:=hb8.frozen;have lt:=hb8.lt;clear hb8;dsimp only at z0 z1 z2 z3 z4 z5 z6 z7 z8 z9 fz lt;go_wp2_with fail;go_ret;have hE:=HE2.o;rw[HH.o.1,HH.o.2] at hE;simp only[if_true] at hE;rw[hE];have hn:=HBK9.o.set_ 6 (.slice A9 (cml C.waits o).length c9);unfold CP.cells at hn;rw[HH.o.1,HH.o.2] at hn;have hfl:∀ j,F j→j<w8.heap.size:=fun j hj=>Wal (HL.o.flt j hj) HO8.o.size
     exact Qu.gen HL.o (HO8.o.then_below HB9.o) (by obtain⟨B,h1,h2⟩:=HF8.o;exact⟨B,h1,h2.below HB9.o⟩) rfl (HWO.o.below HB9.o (Grow.refl _ _)) (OpO.frs HS9.o HF9.o hfl) ((Only.refl (fun k=>k=a) w9).setCell (p:=⟨a,6,none⟩) (.inl rfl) _) hn
 ·have HE:Hd (C.edit l=(k,C)):=⟨by unfold CV.edit;rw[if_neg HE0.o,← HO.o.2,if_pos hk0]⟩;rw[ZN hk0];unfold errno;have HK0:=Hm hk0;clear hk0;go_wp2_with fail;go_ret;rw[HE.o];have he:Q4 k=errno k:=if_neg HK0.o;rw[he];exact Qu.same HL.o HB5.o
end
end
section
open Go.RowKit Go.Sort
def pcv (x:PK × Value):List Value:=[.int .i64 x.1.kind,.int .i64 (x.1.k:Int),.int .i64 x.1.rev,.int .i64 x.1.id,.int .i64 x.1.en.who,.int .i64 x.1.en.id,x.2]
def pks (L:List (PK × Value)):List Value:=L.flatMap pcv
theorem JP (x:PK × Value)(L:List (PK × Value)):pks (x :: L)=pcv x++pks L:=by simp[pks]
theorem Qet (a b:List (PK × Value)):pks (a++b)=pks a++pks b:=by unfold pks;rw[List.flatMap_append]
theorem Qld (x:PK × Value):pks [x]=pcv x:=by simp[pks]
theorem Qeu {L:List (PK × Value)}{k j:Nat}(hk:k<L.length)(hj:j<7):(pks L)[k*7+j]?=(pcv L[k])[j]?:=by
 induction L generalizing k with
 | nil=>simp at hk
 | cons x L ih =>
  have hl:(pcv x).length=7:=rfl;rw[JP]
  cases k with
  | zero=>rw[Nat.zero_mul,Nat.zero_add,List.getElem?_append_left (by omega)];rfl
  | succ k =>
   rw[Way (by omega),hl,show (k+1)*7+j-7=k*7+j from by omega,ih (by simpa using hk)]
   rfl
theorem Qle (L:List (PK × Value))(k:Nat):pks (L.drop k)=(pks L).drop (k*7):=by
 induction L generalizing k with
 | nil=>simp[pks]
 | cons x L ih =>
  cases k with
  | zero=>simp
  | succ k =>
   have hl:(pcv x).length=7:=rfl;rw[List.drop_succ_cons,ih,JP,show (k+1)*7=(pcv x).length+k*7 from by omega,List.drop_append];simp
theorem Qlf (L:List (PK × Value))(k:Nat):pks (L.take k)=(pks L).take (k*7):=by
 induction L generalizing k with
 | nil=>simp[pks]
 | cons x L ih =>
  cases k with
  | zero=>simp[pks]
  | succ k =>
   have hl:(pcv x).length=7:=rfl;rw[List.take_succ_cons,JP,ih,JP,show (k+1)*7=(pcv x).length+k*7 from by omega,List.take_length_add_append]
theorem Sl.pk {w:World}{L:List (PK × Value)}{v:Value}{n:Nat}(h:Sl w 7 v n (pks L)){k:Nat}(hk:k<n)(hl:k<L.length):∃ b o c,v=.slice (some ⟨b,o,none⟩) n c∧b<w.heap.size ∧
  w.cell? ⟨b,o+k*7,none⟩=some (.int .i64 L[k].1.kind)∧w.cell? ⟨b,o+k*7+1,none⟩=some (.int .i64 (L[k].1.k:Int))∧w.cell? ⟨b,o+k*7+2,none⟩=some (.int .i64 L[k].1.rev)∧w.cell? ⟨b,o+k*7+3,none⟩=some (.int .i64 L[k].1.id) ∧
  w.cell? ⟨b,o+k*7+4,none⟩=some (.int .i64 L[k].1.en.who)∧w.cell? ⟨b,o+k*7+5,none⟩=some (.int .i64 L[k].1.en.id)∧w.cell? ⟨b,o+k*7+6,none⟩=some L[k].2:=by
 obtain⟨A,c,rfl,h2,_,_,_,h5⟩:=h;obtain⟨ad,rfl,hb,hc⟩:=h5 (by omega);have z:=fun j (hj:j<7) u (hu:(pcv L[k])[j]?=some u)=>hc _ u ((Qeu hl hj).trans hu)
 have c0:=z 0 (by decide) _ rfl;have c1:=z 1 (by decide) _ rfl;have c2:=z 2 (by decide) _ rfl;have c3:=z 3 (by decide) _ rfl;have c4:=z 4 (by decide) _ rfl;have c5:=z 5 (by decide) _ rfl;have c6:=z 6 (by decide) _ rfl;obtain⟨b,o,p⟩:=ad
 have hp:p=none:=by
  cases p with
  | none=>rfl
  | some x =>
   have hl0:0<L.length:=by omega
   have hz:=hc _ _ ((Qeu hl0 (j:=0) (by decide)).trans rfl)
   have:(⟨b,o,some x⟩:Addr).add (0*7+0)=⟨b,o,some x⟩:=by unfold Addr.add;rfl
   rw[this] at hz;unfold World.cell? at hz
   split at hz<;>simp at hz
 subst hp;simp only[Qz] at c0 c1 c2 c3 c4 c5 c6
 exact⟨b,o,c,rfl,hb,c0,by rw[← c1,Nat.add_assoc],by rw[← c2,Nat.add_assoc],by rw[← c3,Nat.add_assoc],by rw[← c4,Nat.add_assoc],by rw[← c5,Nat.add_assoc],by rw[← c6,Nat.add_assoc]⟩
def Y4 (w:World)(j:Nat):Option TypeId:=match w.heap[j]? with | some (.cells _ t _)=>some t | _=>none
theorem Blk.tyo {w:World}{g:Nat}{t:TypeId}{cs:Array Value}(h:Blk w g t cs):Y4 w g=some t:=by unfold Y4;unfold Blk at h;rw[h]
theorem Xy {w:World}{base:Nat}{e:TypeId}{size n:Nat}{v:Value}{xs:List Value}{k:Nat}(h:w.ownsRow base e size v n xs)(hk:v.ownBlock=some k):Y4 w k=some e:=by
 rcases h.2 with ⟨e,-⟩ | ⟨g,cap,cur,e,-,hg,-⟩
 ·rw[e] at hk;cases hk
 ·rw[e] at hk
  cases hk
  unfold Y4;rw[hg]
theorem SrvR.ty {w:World}{F:Nat→Prop}{s:SP}{S:SV}(h:SrvR w F s S){j:Nat}(hj:s.F j):Y4 w j=some 216∨Y4 w j=some 300∨Y4 w j=none:=by
 rcases hj with rfl | e | rfl
 ·exact .inl h.blk.tyo
 ·exact .inr (.inl (Xy h.own e))
 ·obtain⟨es,clock,hm⟩:=h.map.cap;refine .inr (.inr ?_);unfold Y4;rw[hm]
theorem CliR.ty {w:World}{F:Nat→Prop}{c:CP}{C:CV}(h:CliR w F c C):Y4 w c.a=some 221∧Y4 w c.f=some 275:=by
 obtain⟨t,vh,vr,hb,-⟩:=h.sh.ex
 exact⟨h.blk.tyo,hb.tyo⟩
structure RP where
 a:Nat
 s:SP
 vc:Value
 cs:List CP
 vw:Value
 L:List (PK × Value)
def RP.F (r:RP)(j:Nat):Prop:=j=r.a∨r.s.F j∨(∃ (k:Nat) (c:CP),r.cs[k]?=some c∧c.F j)∨r.vw.ownBlock=some j
def ptrs (cs:List CP):List Value:=cs.map fun c=>.pointer (some ⟨c.a,0,none⟩)
def RP.cells (r:RP)(lost:Int):Array Value:=#[.pointer (some ⟨r.s.a,0,none⟩),r.vc,r.vw,.int .i64 lost]
structure RmR (w:World)(F:Nat→Prop)(r:RP)(R:RM):Prop where
 hd:Zn F w
 blk:Blk w r.a 164 (r.cells R.lost)
 srv:SrvR w F r.s R.srv
 len:r.cs.length=R.cl.length
 cli:∀ (k:Nat) (c:CP) (C:CV),r.cs[k]?=some c→R.cl[k]?=some C→CliR w F c C
 vcs:Sl w 1 r.vc r.cs.length (ptrs r.cs)
 vco:Out F r.vc
 own:w.ownsRow 0 302 7 r.vw r.L.length (pks r.L)
 way:r.L.map Prod.fst=R.way
 ops:∀ x∈r.L,OpO F w x.2 x.1.en.op
 ap:∀ (i j:Nat) (c c':CP),i≠j→r.cs[i]?=some c→r.cs[j]?=some c'→c.a≠c'.a∧c.f≠c'.f
 sub:∀ j,r.F j→F j
 flt:∀ j,F j→j<w.heap.size
section
variable {F F' G:Nat→Prop}{w w' w1 w2:World}{r r1 r':RP}{R R1 R':RM}
theorem RmR.get (h:RmR w F r R){k:Nat}{C:CV}(hC:R.cl[k]?=some C):∃ c,r.cs[k]?=some c∧CliR w F c C:=by
 have hl:=(Wai.1 hC).1;have hc:r.cs[k]?=some (r.cs[k]'(by rw[h.len];exact hl)):=Waj _
 exact⟨_,hc,h.cli _ _ _ hc hC⟩
theorem RmR.wl (h:RmR w F r R):r.L.length=R.way.length:=by rw[← h.way,Wbi]
theorem RmR.lt (h:RmR w F r R):∀ j,r.F j→j<w.heap.size:=fun j hj=>h.flt j (h.sub j hj)
theorem RmR.cty (h:RmR w F r R){k:Nat}{c:CP}(hc:r.cs[k]?=some c):∃ C,R.cl[k]?=some C∧CliR w F c C:=by
 have hl:=(Wai.1 hc).1;have hC:R.cl[k]?=some (R.cl[k]'(by rw[← h.len];exact hl)):=Waj _
 exact⟨_,hC,h.cli _ _ _ hc hC⟩
theorem RmR.a_s (h:RmR w F r R){j:Nat}(hj:r.s.F j):j≠r.a:=fun e=>by
 subst e;have h1:=h.blk.tyo;rcases h.srv.ty hj with h2 | h2 | h2<;>rw[h1] at h2<;>exact absurd h2 (by decide)
theorem RmR.a_c (h:RmR w F r R){k:Nat}{c:CP}(hc:r.cs[k]?=some c){j:Nat}(hj:c.F j):j≠r.a:=fun e=>by
 subst e;have h1:=h.blk.tyo;obtain⟨C,-,hC⟩:=h.cty hc;obtain⟨t1,t2⟩:=hC.ty;rcases hj with e | e
 ·rw[← e,h1] at t1;exact absurd t1 (by decide)
 ·rw[← e,h1] at t2;exact absurd t2 (by decide)
theorem RmR.a_w (h:RmR w F r R):r.vw.ownBlock≠some r.a:=fun e=>by
 have h1:=Xy h.own e;rw[h.blk.tyo] at h1;exact absurd h1 (by decide)
theorem RmR.s_c (h:RmR w F r R){k:Nat}{c:CP}(hc:r.cs[k]?=some c){j:Nat}(hj:c.F j):¬ r.s.F j:=fun e=>by
 obtain⟨C,-,hC⟩:=h.cty hc;obtain⟨t1,t2⟩:=hC.ty;rcases hj with e1 | e1<;>rcases h.srv.ty e with h2 | h2 | h2
 all_goals first | (rw[e1,t1] at h2;exact absurd h2 (by decide)) | (rw[e1,t2] at h2;exact absurd h2 (by decide))
theorem RmR.s_w (h:RmR w F r R){j:Nat}(hj:r.s.F j):r.vw.ownBlock≠some j:=fun e=>by
 have h1:=Xy h.own e;rcases h.srv.ty hj with h2 | h2 | h2<;>rw[h1] at h2<;>exact absurd h2 (by decide)
theorem RmR.c_w (h:RmR w F r R){k:Nat}{c:CP}(hc:r.cs[k]?=some c){j:Nat}(hj:c.F j):r.vw.ownBlock≠some j:=fun e=>by
 have h1:=Xy h.own e;obtain⟨C,-,hC⟩:=h.cty hc;obtain⟨t1,t2⟩:=hC.ty;rcases hj with e1 | e1
 ·rw[e1,t1] at h1;exact absurd h1 (by decide)
 ·rw[e1,t2] at h1;exact absurd h1 (by decide)
theorem RmR.c_c (h:RmR w F r R){i k:Nat}(hik:i≠k){c c':CP}(hi:r.cs[i]?=some c)(hc:r.cs[k]?=some c'){j:Nat}(hj:c.F j):¬ c'.F j:=fun e=>by
 obtain⟨C,-,hC⟩:=h.cty hi;obtain⟨C',-,hC'⟩:=h.cty hc;obtain⟨t1,t2⟩:=hC.ty;obtain⟨u1,u2⟩:=hC'.ty;obtain⟨a1,a2⟩:=h.ap i k c c' hik hi hc;rcases hj with e1 | e1<;>rcases e with e2 | e2
 ·exact a1 (e1.symm.trans e2)
 ·rw[← e1,e2,u2] at t1;exact absurd t1 (by decide)
 ·rw[← e1,e2,u1] at t2;exact absurd t2 (by decide)
 ·exact a2 (e1.symm.trans e2)
theorem RmR.only (h:RmR w F r R)(ho:Only G w w')(hG:∀ j,G j→F j)(hs:∀ j,r.F j→¬ G j)(hF:Grow F F' w.heap.size)(hs':∀ j,r.F j→F' j)(hl:∀ j,F' j→j<w'.heap.size):RmR w' F' r R :=
 ⟨h.hd.only (ho.mono fun j _=>hG j) hF,h.blk.only ho (hs _ (.inl rfl)),h.srv.only ho hG (fun j hj=>hs j (.inr (.inl hj))) hF (fun j hj=>hs' j (.inr (.inl hj))) hl,h.len,
  fun k c C hc hC=>(h.cli k c C hc hC).only ho hG (fun j hj=>hs j (.inr (.inr (.inl ⟨k,c,hc,hj⟩)))) hF (fun j hj=>hs' j (.inr (.inr (.inl ⟨k,c,hc,hj⟩)))) hl,
  h.vcs.out (h.vco.sub hG) ho,h.vco.grow h.vcs hF,Q9 h.own ho (fun j hj=>hs j (.inr (.inr (.inr hj)))),h.way,fun x hx=>(h.ops x hx).only (ho.mono fun j _=>hG j) hF,h.ap,hs',hl⟩
theorem RmR.below (h:RmR w F r R)(hb:Below w.heap.size w w'):RmR w' F r R:=h.only (G:=fun _=>False) (Only.of_below hb) (fun _ e=>e.elim) (fun _ _ e=>e) (Grow.refl _ _) h.sub (fun j hj=>Wal (h.flt j hj) hb.size)
def RmS (F:Nat→Prop)(r:RP)(R':RM)(w w':World):Prop :=
 ∃ r':RP,(r'.a=r.a∧r'.s.a=r.s.a)∧r'.cs.map CP.a=r.cs.map CP.a∧Only r.F w w'∧Grow r.F r'.F w.heap.size∧∀ F',(∀ j,F' j→F j∨r'.F j)→(∀ j,r'.F j→F' j)→RmR w' F' r' R'
theorem RmS.of_below (h:RmR w F r R)(hb:Below w.heap.size w w'):RmS F r R w w' :=
 ⟨r,⟨rfl,rfl⟩,rfl,Only.of_below hb,Grow.refl _ _,fun _F' h1 h2=>h.only (G:=fun _=>False) (Only.of_below hb) (fun _ e=>e.elim) (fun _ _ e=>e) (fun j hj=>.inl ((h1 j hj).elim id (h.sub j))) h2 (fun j hj=>Wal (h.flt j ((h1 j hj).elim id (h.sub j))) hb.size)⟩
theorem RmS.trans (h:RmS F r R1 w w1)(k:∀ r1 F1,(r1.a=r.a∧r1.s.a=r.s.a)→r1.cs.map CP.a=r.cs.map CP.a→RmR w1 F1 r1 R1→RmS F1 r1 R' w1 w2):RmS F r R' w w2:=by
 obtain⟨r1,a1,a2,a3,a4,a5⟩:=h;obtain⟨r2,b1,b2,b3,b4,b5⟩:=k r1 (fun j=>F j∨r1.F j) a1 a2 (a5 _ (fun _ e=>e) (fun _ e=>.inr e));refine⟨r2,⟨b1.1.trans a1.1,b1.2.trans a1.2⟩,b2.trans a2,a3.step b3 (fun i hi hj=>(a4 i hj).elim id (fun e=>by omega)),a4.trans b4 a3.size,fun F' h1 h2=>b5 F' (fun j hj=>(h1 j hj).elim (fun e=>.inl (.inl e)) .inr) h2⟩
theorem RmS.then_below (h:RmS F r R' w w1)(hb:Below w1.heap.size w1 w2):RmS F r R' w w2:=h.trans (fun _ _ _ _ h1=>RmS.of_below h1 hb)
theorem RmS.from_below (_hR:RmR w F r R)(hb:Below w.heap.size w w1)(h:RmS F r R' w1 w2):RmS F r R' w w2:=by
 obtain⟨r1,a1,a2,a3,a4,a5⟩:=h
 exact⟨r1,a1,a2,(Only.of_below hb).trans a3,a4.mono hb.size,a5⟩
theorem RmS.next' (hR:RmR w F r R)(h:RmS F r R' w w1):∃ r1 F1,(r1.a=r.a∧r1.s.a=r.s.a)∧r1.cs.map CP.a=r.cs.map CP.a∧RmR w1 F1 r1 R'∧Only r.F w w1∧Only F w w1∧Grow F F1 w.heap.size∧Grow r.F r1.F w.heap.size∧∀ R2 w2,RmS F1 r1 R2 w1 w2→RmS F r R2 w w2:=by
 have h0:=h;obtain⟨r1,a1,a2,a3,a4,a5⟩:=h;refine⟨r1,fun j=>F j∨r1.F j,a1,a2,a5 _ (fun _ e=>e) (fun _ e=>.inr e),a3,a3.mono (fun j _ hj=>hR.sub j hj),fun j hj=>hj.elim .inl (fun e=>(a4 j e).imp_left (hR.sub j)),a4,fun R2 w2 k=>?_⟩;obtain⟨r2,b1,b2,b3,b4,b5⟩:=k
 exact⟨r2,⟨b1.1.trans a1.1,b1.2.trans a1.2⟩,b2.trans a2,a3.step b3 (fun i hi hj=>(a4 i hj).elim id (fun e=>by omega)),a4.trans b4 a3.size,fun F' h1 h2=>b5 F' (fun j hj=>(h1 j hj).elim (fun e=>.inl (.inl e)) .inr) h2⟩
theorem RmS.next (hR:RmR w F r R)(h:RmS F r R' w w1):∃ r1 F1,(r1.a=r.a∧r1.s.a=r.s.a)∧r1.cs.map CP.a=r.cs.map CP.a∧RmR w1 F1 r1 R'∧Only r.F w w1∧Only F w w1∧Grow F F1 w.heap.size∧∀ R2 w2,RmS F1 r1 R2 w1 w2→RmS F r R2 w w2:=by
 obtain⟨r1,F1,a1,a2,a3,a4,a5,a6,-,a8⟩:=RmS.next' hR h
 exact⟨r1,F1,a1,a2,a3,a4,a5,a6,a8⟩
theorem RmR.served (h:RmR w F r R){x:Int × SV}{e:Ending}(hp:Ze F r.s x w e w'):e=.returned (Q4 x.1)∧RmS F r { R with srv:=x.2 } w w':=by
 obtain⟨s',ha,hm,ho,hg,he,hS⟩:=hp;refine⟨he,{ r with s:=s' },⟨rfl,ha⟩,rfl,ho.mono (fun j _ hj=>.inr (.inl hj)),?_,fun F' h1 h2=>?_⟩
 ·rintro j (e | e | e | e)
  ·exact .inl (.inl e)
  ·exact (hg j e).imp_left (fun e=>.inr (.inl e))
  ·exact .inl (.inr (.inr (.inl e)))
  ·exact .inl (.inr (.inr (.inr e)))
 ·have hgr:Grow F F' w.heap.size:=by
   intro j hj;rcases h1 j hj with e | e | e | e | e
   ·exact .inl e
   ·exact .inl (h.sub _ (.inl e))
   ·exact (hg j e).imp_left (fun e=>h.srv.sub j e)
   ·exact .inl (h.sub _ (.inr (.inr (.inl e))))
   ·exact .inl (h.sub _ (.inr (.inr (.inr e))))
  have hsv:=hS F' (fun j hj=>by
   rcases h1 j hj with e | e | e | e | e
   ·exact .inl e
   ·exact .inl (h.sub _ (.inl e))
   ·exact .inr e
   ·exact .inl (h.sub _ (.inr (.inr (.inl e))))
   ·exact .inl (h.sub _ (.inr (.inr (.inr e))))) (fun j hj=>h2 j (.inr (.inl hj)))
  have hG:=h.srv.sub
  refine⟨h.hd.only (ho.mono fun j _=>hG j) hgr,?_,hsv,h.len,fun k c C hc hC=>(h.cli k c C hc hC).only ho hG (fun j hj=>h.s_c hc hj) hgr (fun j hj=>h2 j (.inr (.inr (.inl ⟨k,c,hc,hj⟩)))) hsv.flt,
   h.vcs.out (h.vco.sub hG) ho,h.vco.grow h.vcs hgr,Q9 h.own ho (fun j hj e=>h.s_w e hj),h.way,fun y hy=>(h.ops y hy).only (ho.mono fun j _=>hG j) hgr,h.ap,h2,hsv.flt⟩
  have:=h.blk.only ho (fun e=>h.a_s e rfl)
  unfold RP.cells at this ⊢;dsimp only;rw[ha];exact this
theorem Qev {cs:List CP}{k:Nat}{c c':CP}(hc:cs[k]?=some c)(ha:c'.a=c.a):(cs.set k c').map CP.a=cs.map CP.a:=by
 rw[List.map_set,ha];exact List.set_at_self (by rw[Wav,hc];rfl)
theorem Qlg {cs cs':List CP}(h:cs'.map CP.a=cs.map CP.a):ptrs cs'=ptrs cs:=by
 have e:∀ l:List CP,ptrs l=(l.map CP.a).map (fun a=>Value.pointer (some ⟨a,0,none⟩)):=fun l=>by unfold ptrs;rw[List.map_map];rfl
 rw[e,e,h]
theorem RmR.client (h:RmR w F r R){k:Nat}{c:CP}(hc:r.cs[k]?=some c){C C':CV}(hC:R.cl[k]?=some C){ev:Value}{e:Ending}(hp:Qu F c ev C' w e w'):e=.returned ev∧RmS F r (R.setc k C') w w':=by
 obtain⟨c',ha,ho,hg,he,hS⟩:=hp;have hk:=(Wai.1 hc).1;have hCR:=h.cli k c C hc hC
 have hset:∀ i,(r.cs.set k c')[i]?=if i=k then some c' else r.cs[i]?:=fun i=>by
  by_cases e:i=k
  ·subst e;rw[if_pos rfl,List.getElem?_set_self hk]
  ·rw[if_neg e,List.getElem?_set_ne (fun h=>e h.symm)]
 have hgF:∀ j,c'.F j→c.F j∨w.heap.size≤j:=hg;refine⟨he,{ r with cs:=r.cs.set k c' },⟨rfl,rfl⟩,Qev hc ha,ho.mono (fun j _ hj=>.inr (.inr (.inl ⟨k,c,hc,hj⟩))),?_,fun F' h1 h2=>?_⟩
 ·rintro j (e | e | ⟨i,ci,hi,e⟩ | e)
  ·exact .inl (.inl e)
  ·exact .inl (.inr (.inl e))
  ·dsimp only at hi;rw[hset] at hi
   split at hi
   ·cases hi
    exact (hgF j e).imp_left (fun e=>.inr (.inr (.inl ⟨k,c,hc,e⟩)))
   ·exact .inl (.inr (.inr (.inl ⟨i,ci,hi,e⟩)))
  ·exact .inl (.inr (.inr (.inr e)))
 ·have hsp:∀ j,F' j→F j∨c'.F j:=by
   intro j hj;rcases h1 j hj with e | e | e | ⟨i,ci,hi,e⟩ | e
   ·exact .inl e
   ·exact .inl (h.sub _ (.inl e))
   ·exact .inl (h.sub _ (.inr (.inl e)))
   ·dsimp only at hi;rw[hset] at hi
    split at hi
    ·cases hi;exact .inr e
    ·exact .inl (h.sub _ (.inr (.inr (.inl ⟨i,ci,hi,e⟩))))
   ·exact .inl (h.sub _ (.inr (.inr (.inr e))))
  have hc'F:∀ j,c'.F j→F' j:=fun j hj=>h2 j (.inr (.inr (.inl ⟨k,c',by dsimp only;rw[hset,if_pos rfl],hj⟩)))
  have hgr:Grow F F' w.heap.size:=fun j hj=>(hsp j hj).elim .inl (fun e=>(hgF j e).imp_left (fun e=>hCR.sub j e))
  have hcv:=hS F' hsp hc'F;have hG:=hCR.sub;have hne:=hcv.ne;have hca:=hc'F
  have hf:c'.f=c.f∨w.heap.size≤c'.f:=by
   rcases hgF c'.f (.inr rfl) with (e | e) | e
   ·exact absurd (ha.trans e.symm) hne
   ·exact .inl e
   ·exact .inr e
  have hap:∀ i ci,i≠k→r.cs[i]?=some ci→ci.a≠c'.a∧ci.f≠c'.f:=fun i ci hik hi=>by
   obtain⟨a1,a2⟩:=h.ap i k ci c hik hi hc;refine⟨by rw[ha];exact a1,fun e=>?_⟩;rcases hf with e2 | e2
   ·exact a2 (e.trans e2)
   ·obtain⟨Ci,-,hCi⟩:=h.cty hi
    have:=hCi.lt ci.f (.inr rfl)
    omega
  refine⟨h.hd.only (ho.mono fun j _=>hG j) hgr,h.blk.only ho (fun e=>h.a_c hc e rfl),h.srv.only ho hG (fun j hj e=>h.s_c hc e hj) hgr (fun j hj=>h2 j (.inr (.inl hj))) hcv.flt,?_,fun i ci Ci hi hCi=>?_,
   ?_,h.vco.grow h.vcs hgr,Q9 h.own ho (fun j hj e=>h.c_w hc e hj),h.way,fun y hy=>(h.ops y hy).only (ho.mono fun j _=>hG j) hgr,fun i j ci cj hij hi hj=>?_,h2,hcv.flt⟩
  ·show (r.cs.set k c').length=(R.cl.set k C').length
   rw[List.length_set,List.length_set];exact h.len
  ·dsimp only at hi;have hCi:(R.cl.set k C')[i]?=some Ci:=hCi;rw[hset] at hi
   split at hi
   ·rename_i e
    cases hi
    subst e;rw[List.getElem?_set_self (by rw[← h.len];exact hk)] at hCi
    cases hCi
    exact hcv
   ·rename_i e
    rw[List.getElem?_set_ne (fun h=>e h.symm)] at hCi;exact (h.cli i ci Ci hi hCi).only ho hG (fun j hj=>h.c_c e hi hc hj) hgr (fun j hj=>h2 j (.inr (.inr (.inl ⟨i,ci,by dsimp only;rw[hset,if_neg e];exact hi,hj⟩)))) hcv.flt
  ·show Sl w' 1 r.vc (r.cs.set k c').length (ptrs (r.cs.set k c'))
   rw[Qlg (Qev hc ha),List.length_set];exact h.vcs.out (h.vco.sub hG) ho
  ·dsimp only at hi hj;rw[hset] at hi hj
   split at hi
   ·rename_i e
    cases hi
    rw[if_neg (fun e2=>hij (e.trans e2.symm))] at hj;obtain⟨b1,b2⟩:=hap j cj (fun e2=>hij (e.trans e2.symm)) hj
    exact⟨fun e=>b1 e.symm,fun e=>b2 e.symm⟩
   ·rename_i e
    split at hj
    ·cases hj
     exact hap i ci e hi
    ·exact h.ap i j ci cj hij hi hj
theorem RmR.ways (h:RmR w F r R){v':Value}{L':List (PK × Value)}{lost':Int}(ho:Only (fun j=>j=r.a∨r.vw.ownBlock=some j) w w')(hb:Blk w' r.a 164 #[.pointer (some ⟨r.s.a,0,none⟩),r.vc,v',.int .i64 lost'])
  (hown:w'.ownsRow 0 302 7 v' L'.length (pks L')) (hv:∀ k,v'.ownBlock=some k→r.vw.ownBlock=some k∨w.heap.size≤k) (hops:∀ x∈L',OpO F w x.2 x.1.en.op):RmS F r { R with way:=L'.map Prod.fst,lost:=lost' } w w':=by
 refine⟨{ r with vw:=v',L:=L' },⟨rfl,rfl⟩,rfl,ho.mono (fun j _ hj=>hj.elim .inl (fun e=>.inr (.inr (.inr e)))),?_,fun F' h1 h2=>?_⟩
 ·rintro j (e | e | e | e)
  ·exact .inl (.inl e)
  ·exact .inl (.inr (.inl e))
  ·exact .inl (.inr (.inr (.inl e)))
  ·exact (hv j e).imp_left (fun e=>.inr (.inr (.inr e)))
 ·have hgr:Grow F F' w.heap.size:=by
   intro j hj;rcases h1 j hj with e | e | e | e | e
   ·exact .inl e
   ·exact .inl (h.sub _ (.inl e))
   ·exact .inl (h.sub _ (.inr (.inl e)))
   ·exact .inl (h.sub _ (.inr (.inr (.inl e))))
   ·exact (hv j e).imp_left (fun e=>h.sub _ (.inr (.inr (.inr e))))
  have hG:∀ j,(j=r.a∨r.vw.ownBlock=some j)→F j:=fun j hj=>h.sub j (hj.elim .inl (fun e=>.inr (.inr (.inr e))))
  have hfl:∀ j,F' j→j<w'.heap.size:=fun j hj=>by
   have hz:=ho.size;rcases h1 j hj with e | e | e | e | e
   ·exact Wal (h.flt j e) hz
   ·exact Wal (h.lt j (.inl e)) hz
   ·exact Wal (h.lt j (.inr (.inl e))) hz
   ·exact Wal (h.lt j (.inr (.inr (.inl e)))) hz
   ·exact (hown.lt j e).2
  exact⟨h.hd.only (ho.mono fun j _=>hG j) hgr,hb,h.srv.only ho hG (fun j hj e=>e.elim (fun e=>h.a_s hj e) (fun e=>h.s_w hj e)) hgr (fun j hj=>h2 j (.inr (.inl hj))) hfl,h.len,
   fun k c C hc hC=>(h.cli k c C hc hC).only ho hG (fun j hj e=>e.elim (fun e=>h.a_c hc hj e) (fun e=>h.c_w hc hj e)) hgr (fun j hj=>h2 j (.inr (.inr (.inl ⟨k,c,hc,hj⟩)))) hfl,
   h.vcs.out (h.vco.sub hG) ho,h.vco.grow h.vcs hgr,hown,rfl,fun x hx=>(hops x hx).only (ho.mono fun j _=>hG j) hgr,h.ap,h2,hfl⟩
end
end
section
open Go.RowKit Go.Sort
theorem Blk.drew_' {w:World}{g:Nat}{t:TypeId}{cs:Array Value}(h:Blk w g t cs):Blk w.drew g t cs:=h
theorem Qvt:El prog 162 302 7 72:=El.mk' underlying162 (by kernel_rfl) (by decide)
section
attribute [local go_sem] Qz
variable {F:Nat→Prop}{w:World}{r:RP}{R:RM}
theorem Qvu (h:RmR w F r R):Calls prog 147 #[.pointer (some ⟨r.a,0,none⟩)] w fun e w'=>e=.returned (.int .i64 (R.way.length:Int))∧w'=w:=by
 obtain⟨z0,z1,z2,z3⟩:=Qk h.blk;obtain⟨A,c,hv⟩:=Qm h.own;rw[hv,h.wl] at z2;clear h hv;go_enter func147,ntmps147
 go_wp2_with fail;go_ret
 exact⟨rfl,rfl⟩
theorem Qvv (h:RmR w F r R):Calls prog 157 #[.pointer (some ⟨r.a,0,none⟩)] w fun e w'=>e=.returned (.int .i64 (R.srv.log.length:Int))∧w'=w:=by
 obtain⟨z0,z1,z2,z3⟩:=Qk h.blk;have HR:=Hm (Qip h.srv);clear h;go_enter func157,ntmps157
 go_wp2_with fail;refine HR.o.mono ?_;rintro e w1 ⟨rfl,rfl⟩;go_wp2_with fail;go_ret
 exact⟨rfl,rfl⟩
theorem Qvw (h:RmR w F r R):Calls prog 158 #[.pointer (some ⟨r.a,0,none⟩)] w fun e w'=>e=.returned (.string ⟨R.srv.doc.toArray⟩)∧Below w.heap.size w w':=by
 obtain⟨z0,z1,z2,z3⟩:=Qk h.blk;have HR:=Hm (Qt0 h.srv);clear h;go_enter func158,ntmps158
 go_wp2_with fail;refine HR.o.mono ?_;rintro e w1 ⟨rfl,hb⟩;have HB:=Hm hb;clear hb;go_wp2_with fail;go_ret
 exact⟨rfl,HB.o⟩
theorem Sl.one_at {v:Value}{n:Nat}{xs:List Value}(h:Sl w 1 v n xs){k:Nat}(hk:k<n){u:Value}(hu:xs[k]?=some u):∃ b o c,v=.slice (some ⟨b,o,none⟩) n c∧b<w.heap.size∧w.cell? ⟨b,o+k,none⟩=some u:=by
 obtain⟨A,c,hv,hc⟩:∃ A c,v=.slice A n c∧True:=by obtain⟨A,c,h1,-⟩:=h;exact⟨A,c,h1,trivial⟩
 subst hv;obtain⟨b,o,rfl⟩:=h.addr1 (by omega);obtain⟨A',c',hv,h2,h3,h4,h4',h5⟩:=h
 cases hv
 obtain⟨ad,had,hb,hc⟩:=h5 (by omega)
 cases had
 have:=hc k u hu
 rw[Qz] at this
 exact⟨b,o,c,rfl,hb,this⟩
theorem Qjh (h:RmR w F r R){k:Nat}{c:CP}(hc:r.cs[k]?=some c):Calls prog 202 #[.pointer (some ⟨r.a,0,none⟩),.int .i64 (k:Int)] w fun e w'=>e=.returned (.tuple #[.pointer (some ⟨c.a,0,none⟩),.nilIface])∧w'=w:=by
 obtain⟨z0,z1,z2,z3⟩:=Qk h.blk;have hk:=(Wai.1 hc).1;obtain⟨b,o,cc,hv,hb,c0⟩:=h.vcs.one_at (k:=k) hk (u:=.pointer (some ⟨c.a,0,none⟩)) (by unfold ptrs;rw[Wav,hc];rfl);rw[hv] at z1;clear h hv hc;go_enter func202,ntmps202
 go_wp2_with fail;go_ret2
 exact⟨rfl,rfl⟩
theorem Qji (h:RmR w F r R){k:Int}(hk:¬ (0≤k∧k<r.cs.length)):Calls prog 202 #[.pointer (some ⟨r.a,0,none⟩),.int .i64 k] w fun e w'=>e=.returned (.tuple #[.pointer none,errno 2])∧w'=w:=by
 obtain⟨z0,z1,z2,z3⟩:=Qk h.blk;obtain⟨A,c,hv,-⟩:=h.vcs;rw[hv] at z1;clear h hv
 by_cases h0:k<0
 ·go_enter func202,ntmps202
  go_wp2_with fail;go_ret2
  exact⟨rfl,rfl⟩
 ·have h1:(r.cs.length:Int)≤k:=by omega
  clear hk;go_enter func202,ntmps202
  go_wp2_with fail;go_ret2
  exact⟨rfl,rfl⟩
theorem Qvx {w:World}{t:TypeId}{size m H:Nat}{cs:Array Value}(hH:w.heap.size=H)(hl:cs.size=m*size)(hm:m≤maxLen):Sl (w.alloc (.cells cs t)) size (.slice (some ⟨H,0,none⟩) m m) m cs.toList:=by
 subst hH;exact Sl.lit hl hm
def pkV (p:PK)(v:Value):Value:=.agg #[.int .i64 p.kind,.int .i64 (p.k:Int),.int .i64 p.rev,.int .i64 p.id,.int .i64 p.en.who,.int .i64 p.en.id,v]
theorem Qjj {v:Value}(hv:v.oneCell'=true)(p:PK):∀ u∈pcv (p,v),u.oneCell'=true:=by
 intro u hu;simp only[pcv,Wbk,List.not_mem_nil,or_false] at hu;rcases hu with rfl | rfl | rfl | rfl | rfl | rfl | rfl
 all_goals first | rfl | exact hv
theorem RmR.sent {W2 w8:World}{p:PK}{v v8:Value}(h:RmR w F r R)(hb:Below w.heap.size w W2)(hn:¬ 400≤R.way.length)(hx:OpO F w v p.en.op)(h8:w8.ownsRow 0 302 7 v8 (R.way.length+1) (pks r.L++pcv (p,v)))
  (hg:W2.grownBy w8 r.vw.ownBlock) (hnew:∀ k,v8.ownBlock=some k→r.vw.ownBlock=some k∨W2.heap.size≤k):RmS F r (R.send p) w (w8.setCell ⟨r.a,2,none⟩ v8):=by
 have h2:=h.below hb;have hO:=Only.of_grown hg;have hO2:Only (fun j=>j=r.a) w8 (w8.setCell ⟨r.a,2,none⟩ v8):=(Only.refl (fun j=>j=r.a) w8).setCell (p:=⟨r.a,2,none⟩) (.inl rfl) _
 have hna:v8.ownBlock≠some r.a:=fun e=>by
  rcases hnew _ e with e | e
  ·exact h2.a_w e
  ·have:=h2.blk.lt;omega
 have hs:R.send p={ R with way:=R.way++[p] }:=by unfold RM.send;rw[if_neg hn]
 have hw:=h2.ways (v':=v8) (L':=r.L++[(p,v)]) (lost':=R.lost) ((hO.mono (fun j _ e=>.inr e.symm)).trans (hO2.mono (fun j _ e=>.inl e))) ((h2.blk.only hO (fun e=>h2.a_w e.symm)).set_ 2 v8)
  (by rw[Wad,h2.wl,Qet,Qld];exact Q9 h8 hO2 (fun k hk e=>hna (by rw[hk,e]))) hnew
  (fun x hx'=>by
   rcases List.mem_append.1 hx' with e | e
   ·exact h2.ops x e
   ·obtain rfl:=Wbd.1 e;exact hx.below hb (Grow.refl _ _))
 rw[Wbo,h2.way] at hw;rw[hs];exact RmS.from_below h hb hw
theorem JB {p:PK}{v:Value}(h:RmR w F r R)(hx:OpO F w v p.en.op)(hl:-1000000000≤R.lost∧R.lost≤1000000000) :
  Calls prog 217 #[.pointer (some ⟨r.a,0,none⟩),pkV p v] w fun e w'=>e=.returned (.tuple #[])∧RmS F r (R.send p) w w':=by
 obtain⟨W,hW⟩:∃ W,W=w.alloc (.cells #[.int .i64 p.kind,.int .i64 (p.k:Int),.int .i64 p.rev,.int .i64 p.id,.int .i64 p.en.who,.int .i64 p.en.id,v] 302):=⟨_,rfl⟩;have hb:Below w.heap.size w W:=by rw[hW];exact Qb (Wac _ _) _
 have h1:=h.below hb;have hbx:Blk W w.heap.size 302 #[.int .i64 p.kind,.int .i64 (p.k:Int),.int .i64 p.rev,.int .i64 p.id,.int .i64 p.en.who,.int .i64 p.en.id,v]:=by rw[hW];exact Blk.new _ _ _
 obtain⟨z0,z1,z2,z3⟩:=Qk h.blk;have fz:=h.blk.frozen;have lt:=h.blk.lt;obtain⟨A,c,hv⟩:=Qm h.own;have hwl:=h.wl;rw[hv,hwl] at z2;have HL:=Hm h;have H1:=Hm h1;have HB:=Hm hb;have HV:=Hm hv;have HWL:=Hm hwl;have HX:=Hm hx;have HBX:=Hm hbx;obtain⟨⟨Av,cv,hvv,-⟩,-⟩:=hx;have HW:=Hm hW;subst hvv;obtain⟨hl1,hl2⟩:=hl;clear h h1 hb hv hwl hbx hW
 by_cases hfull:400≤R.way.length
 ·have hi:(400:Int)≤(R.way.length:Int):=by omega
  have HF:=Hm hfull;clear hfull;unfold pkV;go_enter func217,ntmps217
  go_wp2_with fail
  (try simp only[Exit.inBlock,Exit.then])
  refine Waz (results_none rfl _ _ _) rfl ?_;refine⟨rfl,RmS.then_below ?_ (Qb (Wac _ _) _)⟩;have hs:R.send p={ R with lost:=R.lost+1 }:=by unfold RM.send;rw[if_pos HF.o]
  have hO:Only (fun j=>j=r.a) w (w.setCell ⟨r.a,3,none⟩ (.int .i64 (R.lost+1))):=(Only.refl (fun j=>j=r.a) w).setCell (p:=⟨r.a,3,none⟩) (.inl rfl) _;have hw:=HL.o.ways (v':=r.vw) (L':=r.L) (lost':=R.lost+1) (hO.mono (fun j _ e=>.inl e)) (HL.o.blk.set_ 3 (.int .i64 (R.lost+1))) (Q9 HL.o.own hO (fun k hk e=>HL.o.a_w (by rw[hk,e]))) (fun k hk=>.inl hk) HL.o.ops;rw[HL.o.way] at hw;rw[hs];exact hw
 ·have hi:¬ (400:Int)≤(R.way.length:Int):=by omega
  have HF:Hd (¬ 400≤R.way.length):=⟨hfull⟩;have HOW:Hd (W.ownsRow 0 302 7 (.slice A R.way.length c) R.way.length (pks r.L)):=⟨by have:=H1.o.own;rw[HV.o,HWL.o] at this;exact this⟩;clear hfull;rw[HW.o] at HOW;unfold pkV;go_enter func217,ntmps217
  go_wp2_with fail;go_region_law (refine ZL Qvt [.int .i64 p.kind,.int .i64 (p.k:Int),.int .i64 p.rev,.int .i64 p.id,.int .i64 p.en.who,.int .i64 p.en.id,.slice Av p.en.op.length cv] (.slice (some ⟨w.heap.size+1,0,none⟩) 1 1) (HOW.o.drew.alloc _) (Qvx (by simp) rfl (by unfold maxLen;omega)) rfl rfl rfl rfl (Qjj (v:=.slice Av p.en.op.length cv) rfl p) (by unfold maxLen;omega) (by omega) (Nat.zero_le _) ?_;intro v8 w8 hown8 hbel8 hgr8 hnew8;have HO8:=Hm hown8;obtain⟨A8,c8,rfl⟩:=Qm hown8;have HGR8:=Hm hgr8;have HNW8:=Hm hnew8;have hbk8:=(((HL.o.blk.alloc _).drew_').alloc _).only (Only.of_grown hgr8) (fun e=>HL.o.a_w (by rw[HV.o,HWL.o];exact e.symm));have HBK8:=Hm hbk8;obtain⟨y0,y1,y2,y3⟩:=Qk hbk8;have yf:=hbk8.frozen;have yl:=hbk8.lt;rw[HV.o,HWL.o] at y2;clear hown8 hbel8 hgr8 hnew8 hbk8)
  all_goals
   go_wp2_with fail;go_end0;have hvq:Value.slice A R.way.length c=r.vw:=by rw[HV.o,HWL.o]
   have g1:=HGR8.o;have g2:=HNW8.o;rw[hvq] at g1 g2;refine⟨rfl,HL.o.sent ?_ HF.o HX.o HO8.o g1 g2⟩;exact Qe (Qb (Qb (Wac _ _) _) _)
end
end
section
open Go.RowKit Go.Sort
theorem RM.sends_lost (r:RM)(l:List PK):r.lost≤(r.sends l).lost∧(r.sends l).lost≤r.lost+(l.length:Int):=by
 induction l generalizing r with
 | nil=>simp[RM.sends]
 | cons p l ih =>
  have h1:=ih (r.send p);have h2:r.lost≤(r.send p).lost∧(r.send p).lost≤r.lost+1:=by unfold RM.send;split<;>simp<;>omega
  have e:r.sends (p :: l)=(r.send p).sends l:=rfl;rw[e,Wan];omega
theorem RM.sends_snoc (r:RM)(l:List PK)(p:PK):r.sends (l++[p])=(r.sends l).send p:=by unfold RM.sends;rw[List.foldl_append];rfl
theorem Qwy {k n:Nat}{l:List EN}{i:Nat}(hi:i<l.length):(QF k n l)[i]?=some ⟨3,k,((n+i:Nat):Int),0,l[i]⟩:=by
 induction l generalizing n i with
 | nil=>simp at hi
 | cons e l ih =>
  rw[QF]
  cases i with
  | zero=>simp
  | succ i =>
   rw[Wae,ih (by simpa using hi),List.getElem_cons_succ]
   congr 3
   omega
theorem Qwz {k n:Nat}{l:List EN}{i:Nat}(hi:i<l.length):(QF k n l).take (i+1)=(QF k n l).take i++[⟨3,k,(n:Int)+(i:Int),0,l[i]⟩]:=by
 have h:=Qwy (k:=k) (n:=n) hi;have hl:i<(QF k n l).length:=by rw[(XE _ _ _).2];exact hi
 rw[Wag hl];rw[Waj hl] at h;rw[Wbg h]
 congr 3
section
attribute [local go_sem] Qz
variable {F:Nat→Prop}{w:World}{r:RP}{R:RM}
def TlS (F:Nat→Prop)(r:RP)(R:RM)(E:List EN)(k n:Nat)(w1:World)(j:Nat)(wr:World):Prop:=RmS F r (R.sends ((QF k n E).take j)) w1 wr
theorem Qjy {k:Nat}{rev:Int}(h:RmR w F r R)(hN:R.srv.log.length≤1000)(hl:-1000000≤R.lost∧R.lost≤900000000) :
  Calls prog 254 #[.pointer (some ⟨r.a,0,none⟩),.int .i64 (k:Int),.int .i64 rev] w fun e w'=>e=.returned (.tuple #[])∧RmS F r (R.tells k rev) w w':=by
 obtain⟨z0,z1,z2,z3⟩:=Qk h.blk;have HLG:=Hm (Qpa (r:=rev) h.srv hN);have HL:=Hm h;have HN:=Hm hN;have HLO:=Hm hl;clear h hN hl
 by_cases hrg:0≤rev∧rev≤(R.srv.log.length:Int)
 ·obtain⟨n,rfl⟩:=Was hrg.1;have HRG:=Hm hrg;have hn1:n≤1000:=by have:=HN.o;omega
  have HT:Hd (R.tells k n=R.sends (QF k n (R.srv.log.drop n))):=⟨by unfold RM.tells;rw[if_pos hrg,show ((n:Nat):Int).toNat=n from by omega]⟩;clear hrg;go_enter func254,ntmps254
  go_wp2_with (go_at_call 293;refine HLG.o.mono ?_;rintro e w1 ⟨hb1,-,h1⟩;obtain⟨v,L,rfl,hs,hm,hops,hf⟩:=h1 HRG.o;have HB1:=Hm hb1;have HS:=Hm hs;have HM:=Hm hm;have HOPS:=Hm hops;have HFV:=Hm hf;obtain⟨A,c,rfl,-⟩:=hs;clear hb1 h1 hm hops hf)
  have HLL:Hd (L.length≤1000∧L.length=(R.srv.log.drop n).length):=⟨by have:=congrArg List.length HM.o;rw[Wbi,War,show ((n:Nat):Int).toNat=n from by omega] at this;rw[War];have:=HN.o;omega⟩;have HR1:=Hm (HL.o.below HB1.o);have hll:=HLL.o.1;clear z0 z1 z2 z3
  go_loopw [23] (fun i wr=>∃ j:Nat,j≤L.length∧i=.int .i64 j∧TlS F r R (R.srv.log.drop n) k n w1 j wr) (fun i _=>L.length-(intOf i).toNat)
  case atStart=>exact⟨0,by omega,rfl,RmS.of_below HR1.o (Wac _ _)⟩
  case round =>
   obtain⟨j,hj,rfl,hT⟩:=hrel;have HTS:=Hm hT;clear hT
   by_cases hjl:j<L.length
   ·obtain⟨r1,F1,ha,hcs,hR,ho,hoF,hgr,hnx⟩:=RmS.next HR1.o HTS.o;have hsl:Sl wr 3 (.slice A L.length c) L.length (ens L):=HS.o.frs HFV.o ho (fun q hq=>HL.o.lt q hq);obtain⟨b,o,c',hv,hbw,c0,c1,c2⟩:=hsl.entry hjl hjl
    cases hv
    have hmem:L[j]∈L:=Wau hjl;have hop:=HOPS.o _ hmem
    have hE:(R.srv.log.drop n)[j]'(by rw[← HLL.o.2];exact hjl)=L[j].1:=by
     have e1:(L.map Prod.fst)[j]'(by rw[Wbi];exact hjl)=L[j].1:=by rw[List.getElem_map]
     rw[← e1];have h2:=HM.o;rw[show ((n:Nat):Int).toNat=n from by omega] at h2;simp only[h2]
    have HTK:=Hm (Qwz (k:=k) (n:=n) (l:=R.srv.log.drop n) (i:=j) (by rw[← HLL.o.2];exact hjl));rw[hE] at HTK;generalize L[j]=x at *;obtain⟨en,vx⟩:=x;obtain⟨who,id,op⟩:=en;dsimp only at c0 c1 c2 hop HTK;have hopO:OpO F1 wr vx op:=(OpO.frs hop.1 hop.2 HL.o.flt).only hoF hgr;obtain⟨Ax,cx,rfl,-⟩:=hop.1;obtain⟨wq,hwq⟩:∃ W,W=wr.alloc (.cells #[.int .i64 who,.int .i64 id,.slice Ax op.length cx] 300):=⟨_,rfl⟩;have hbq:Below wr.heap.size wr wq:=by rw[hwq];exact Qb (Wac _ _) _
    have HWQ:=Hm hwq;have HNX:=Hm hnx;have hlo:=(R.sends_lost ((QF k n (R.srv.log.drop n)).take j));rw[Wbb] at hlo;have HSD:=Hm (JB (p:=⟨3,k,(n:Int)+(j:Int),0,⟨who,id,op⟩⟩) (v:=.slice Ax op.length cx) (hR.below hbq) (hopO.below hbq (Grow.refl _ _)) (by have:=HLO.o;omega));have HBQ:=Hm (Wao hR hbq);rw[ha.1] at HSD;unfold pkV at HSD;rw[hwq] at HSD;dsimp only at HSD;clear hop hsl hR ho hoF hgr hnx hopO hlo hwq hbq hcs ha hmem hE;go_wp2_with (go_at_call 217;refine HSD.o.mono ?_;rintro e w3 ⟨rfl,hs3⟩;have HS3:=Hm hs3;clear hs3)
    refine⟨⟨j+1,by omega,by go_num,?_⟩,by simp only[intOf];omega⟩;unfold TlS;rw[HTK.o,RM.sends_snoc];have h3:=HS3.o;rw[← HWQ.o] at h3;exact HNX.o _ _ (RmS.from_below HBQ.o.1 HBQ.o.2 h3)
   ·obtain rfl:j=L.length:=by omega
    go_wp2_with fail;go_end0;refine⟨rfl,RmS.from_below HL.o HB1.o ?_⟩;have h3:=HTS.o;unfold TlS at h3;rw[List.take_of_length_le (by rw[(XE _ _ _).2];exact Nat.le_of_eq HLL.o.2.symm)] at h3;rw[HT.o];exact h3
 ·have HRG:=Hm hrg;have HT:Hd (R.tells k rev=R):=⟨by unfold RM.tells;rw[if_neg hrg]⟩;clear hrg;go_enter func254,ntmps254
  go_wp2_with (go_at_call 293;refine HLG.o.mono ?_;rintro e w1 ⟨hb1,h1,-⟩;obtain rfl:=h1 HRG.o;unfold errno;have HB1:=Hm hb1;clear hb1 h1)
  (try simp only[Exit.inBlock,Exit.then])
  refine Waz (results_none rfl _ _ _) rfl ?_;rw[HT.o]
  exact⟨rfl,RmS.of_below HL.o HB1.o⟩
end
end
section
open Go.RowKit Go.Sort
theorem Qty {w:World}{F:Nat→Prop}{c:CP}{C:CV}{e:EN}{v:Value}{T rev:Int}(h:CliR w F c C)(hg:Zn F w)(hk:COk T C)(hT:T≤1000000)(hrv:C.rev≤100000)(hx:OpO F w v e.op)(hf:rev=C.rev→∃ Z,Fit_ C e Z) :
  Calls prog 255 #[.pointer (some ⟨c.a,0,none⟩),.int .i64 rev,.agg #[.int .i64 e.who,.int .i64 e.id,v]] w (Qu F c .nilIface (C.take rev e) w):=by
 by_cases hr:rev=C.rev
 ·subst hr;obtain⟨Z,hZ⟩:=hf rfl
  by_cases ho:C.isOwn e
  ·have e1:C.take C.rev e=C.own e:=by unfold CV.take;rw[if_neg (fun h=>h rfl),if_pos ho]
   rw[e1];exact Qor h hg hk hT hrv hx hZ ho
  ·have e1:C.take C.rev e=C.other e:=by unfold CV.take;rw[if_neg (fun h=>h rfl),if_neg ho]
   rw[e1];exact Qlj h hg hk hrv hx hZ ho
 ·have e1:C.take rev e=C:=by unfold CV.take;rw[if_pos hr]
  rw[e1];exact Qoq h hr
theorem Qtz {w:World}{F:Nat→Prop}{c:CP}{C:CV}{T id:Int}(h:CliR w F c C)(hk:COk T C)(hT:T≤1000000) :
  Calls prog 256 #[.pointer (some ⟨c.a,0,none⟩),.int .i64 id] w (Qu F c (.tuple #[]) (C.refused id) w):=by
 by_cases hr:C.has=true∧id=C.id
 ·obtain⟨h1,rfl⟩:=hr;exact Qou h hk hT h1
 ·have e1:C.refused id=C:=by unfold CV.refused;rw[if_neg hr]
  rw[e1];exact Qos h hr
end
section
open Go.RowKit Go.Sort
structure CmI (w:World)(F:Nat→Prop)(r:RP)(R:RM)(p:PK)(v:Value)(C:CV)(c:CP)(N:Int):Prop where
 rm:RmR w F r R
 op:OpO F w v p.en.op
 ok:RMok N R
 n:N≤1000000
 tk:R.srv.tk≤900000000
 lost:-1000000≤R.lost∧R.lost≤800000000
 hC:R.cl[p.k]?=some C
 hc:r.cs[p.k]?=some c
 pk:PKok R.srv C p
theorem CmI.below {w w':World}{F:Nat→Prop}{r:RP}{R:RM}{p:PK}{v:Value}{C:CV}{c:CP}{N:Int}(h:CmI w F r R p v C c N)(hb:Below w.heap.size w w'):CmI w' F r R p v C c N :=
 ⟨h.rm.below hb,h.op.below hb (Grow.refl _ _),h.ok,h.n,h.tk,h.lost,h.hC,h.hc,h.pk⟩
theorem CmI.k6 {w:World}{F:Nat→Prop}{r:RP}{R:RM}{p:PK}{v:Value}{C:CV}{c:CP}{N:Int}(h:CmI w F r R p v C c N)(hn:R.cl.length≤1000000):(Lit.int .i64 (p.k:Int)).wf=true:=by
 have:=(Wai.1 h.hC).1
 simp[Lit.wf,IntKind.min,IntKind.max,IntKind.signed,IntKind.bits]
 omega
section
attribute [local go_sem] Qz
variable {F:Nat→Prop}{w:World}{r:RP}{R:RM}{p:PK}{v:Value}{C:CV}{c:CP}{N:Int}
theorem Qvz (h:CmI w F r R p v C c N)(hk:p.kind=2) :
  Calls prog 201 #[.pointer (some ⟨r.a,0,none⟩),pkV p v] w fun e w'=>e=.returned (.tuple #[])∧RmS F r (R.comes p) w w':=by
 have hpk:=(Wai.1 h.hc).1;obtain⟨b,o,cc,hv,hbb,c0⟩:=h.rm.vcs.one_at (k:=p.k) hpk (u:=.pointer (some ⟨c.a,0,none⟩)) (by unfold ptrs;rw[Wav,h.hc];rfl);obtain⟨z0,z1,z2,z3⟩:=Qk h.rm.blk;rw[hv] at z1;have lt:=h.rm.blk.lt;obtain⟨A,ca,hvv,-⟩:=h.op.sl;have HL:=Hm h;obtain⟨kind,k,rev,id,en⟩:=p;obtain⟨who,eid,op⟩:=en;dsimp only at hk hvv hpk c0;subst hk hvv;have HT:=fun W (hb:Below w.heap.size w W)=>Hm (Qjy (k:=k) (rev:=rev) (h.rm.below hb) (by have:=h.ok.ln;omega) (by have:=h.lost;omega))
 have HR:Hd (R.comes ⟨2,k,rev,id,⟨who,eid,op⟩⟩=R.tells k rev):=⟨by unfold RM.comes;rw[if_neg (by decide:¬ (2:Int)=1),if_pos (rfl:(2:Int)=2)]⟩;clear h hv;unfold pkV;go_enter func201,ntmps201
 go_wp2_with fail;go_quiet (fail)
 go_wp2_with fail;refine ((HT _ (Qo nq (Qb (Wac _ _) _))).out).mono ?_;rintro e w3 ⟨rfl,h3⟩;have H3:=Hm h3;clear h3;go_wp2_with fail;go_end0;rw[HR.o]
 exact⟨rfl,RmS.from_below HL.o.rm (Qo nq (Qb (Wac _ _) _)) H3.o⟩
theorem Qv0 (h:CmI w F r R p v C c N)(hk:p.kind=3) :
  Calls prog 201 #[.pointer (some ⟨r.a,0,none⟩),pkV p v] w fun e w'=>e=.returned (.tuple #[])∧RmS F r (R.comes p) w w':=by
 have hpk:=(Wai.1 h.hc).1;obtain⟨b,o,cc,hv,hbb,c0⟩:=h.rm.vcs.one_at (k:=p.k) hpk (u:=.pointer (some ⟨c.a,0,none⟩)) (by unfold ptrs;rw[Wav,h.hc];rfl);obtain⟨z0,z1,z2,z3⟩:=Qk h.rm.blk;rw[hv] at z1;have lt:=h.rm.blk.lt;obtain⟨A,ca,hvv,-⟩:=h.op.sl;have HL:=Hm h;obtain⟨kind,k,rev,id,en⟩:=p;obtain⟨who,eid,op⟩:=en;dsimp only at hk hvv hpk c0;subst hk hvv;have hck:=h.ok.cl _ _ h.hC
 have hf:rev=C.rev→∃ Z,Fit_ C ⟨who,eid,op⟩ Z:=fun e=>by
  have he:=h.pk.told rfl;dsimp only at he;rw[e,show ((C.rev:Nat):Int).toNat=C.rev from by omega] at he;obtain⟨Z,hZ,-⟩:=hck.fit h.ok.sv he
  exact⟨Z,hZ⟩
 have HT:=fun W (hb:Below w.heap.size w W)=>Hm (Qty (e:=⟨who,eid,op⟩) (v:=.slice A op.length ca) (rev:=rev) ((h.rm.below hb).cli k c C h.hc h.hC) ((h.below hb).rm.hd) hck.ok h.n (by have:=hck.rev;have:=h.ok.ln;omega) ((h.below hb).op) hf)
 have HR:Hd (R.comes ⟨3,k,rev,id,⟨who,eid,op⟩⟩=R.setc k (C.take rev ⟨who,eid,op⟩)):=⟨by unfold RM.comes;rw[if_neg (by decide:¬ (3:Int)=1),if_neg (by decide:¬ (3:Int)=2),if_pos (rfl:(3:Int)=3),h.hC]⟩;clear h hv hck hf;unfold pkV;go_enter func201,ntmps201
 go_wp2_with fail;go_quiet (fail)
 go_wp2_with fail;refine ((HT _ (Qo nq (Qb (Wac _ _) _))).out).mono ?_;intro e w3 h3;have h4:=(HL.o.rm.below (Qo nq (Qb (Wac _ _) _))).client HL.o.hc HL.o.hC h3;obtain⟨rfl,h5⟩:=h4;have H3:=Hm h5;clear h3 h5;go_wp2_with fail;go_end0;rw[HR.o]
 exact⟨rfl,RmS.from_below HL.o.rm (Qo nq (Qb (Wac _ _) _)) H3.o⟩
theorem Qv1 (h:CmI w F r R p v C c N)(hk:p.kind=4) :
  Calls prog 201 #[.pointer (some ⟨r.a,0,none⟩),pkV p v] w fun e w'=>e=.returned (.tuple #[])∧RmS F r (R.comes p) w w':=by
 have hpk:=(Wai.1 h.hc).1;obtain⟨b,o,cc,hv,hbb,c0⟩:=h.rm.vcs.one_at (k:=p.k) hpk (u:=.pointer (some ⟨c.a,0,none⟩)) (by unfold ptrs;rw[Wav,h.hc];rfl);obtain⟨z0,z1,z2,z3⟩:=Qk h.rm.blk;rw[hv] at z1;have lt:=h.rm.blk.lt;obtain⟨A,ca,hvv,-⟩:=h.op.sl;have HL:=Hm h;obtain⟨kind,k,rev,id,en⟩:=p;obtain⟨who,eid,op⟩:=en;dsimp only at hk hvv hpk c0;subst hk hvv;have hck:=h.ok.cl _ _ h.hC;have HT:=fun W (hb:Below w.heap.size w W)=>Hm (Qtz (id:=id) ((h.rm.below hb).cli k c C h.hc h.hC) hck.ok h.n)
 have HR:Hd (R.comes ⟨4,k,rev,id,⟨who,eid,op⟩⟩=R.setc k (C.refused id)):=⟨by unfold RM.comes;rw[if_neg (by decide:¬ (4:Int)=1),if_neg (by decide:¬ (4:Int)=2),if_neg (by decide:¬ (4:Int)=3),if_pos (rfl:(4:Int)=4),h.hC]⟩;clear h hv hck;unfold pkV;go_enter func201,ntmps201
 go_wp2_with fail;go_quiet (fail)
 go_wp2_with fail;refine ((HT _ (Qo nq (Qb (Wac _ _) _))).out).mono ?_;intro e w3 h3;have h4:=(HL.o.rm.below (Qo nq (Qb (Wac _ _) _))).client HL.o.hc HL.o.hC h3;obtain⟨rfl,h5⟩:=h4;have H3:=Hm h5;clear h3 h5;go_wp2_with fail;go_end0;rw[HR.o]
 exact⟨rfl,RmS.from_below HL.o.rm (Qo nq (Qb (Wac _ _) _)) H3.o⟩
end
end
section
open Go.RowKit Go.Sort
theorem Qby {w:World}{g:Nat}{ty:TypeId}{a0 a1 a2 a3 a4 a5 a6:Value}(h:Blk w g ty #[a0,a1,a2,a3,a4,a5,a6]) :
  w.cell? ⟨g,0,none⟩=some a0∧w.cell? ⟨g,1,none⟩=some a1∧w.cell? ⟨g,2,none⟩=some a2∧w.cell? ⟨g,3,none⟩=some a3∧w.cell? ⟨g,4,none⟩=some a4∧w.cell? ⟨g,5,none⟩=some a5∧w.cell? ⟨g,6,none⟩=some a6:=by
 have z:=fun j=>h.cell j
 have z0:=z 0;have z1:=z 1;have z2:=z 2;have z3:=z 3;have z4:=z 4;have z5:=z 5;have z6:=z 6;simp only[Wab,Waa,Wae] at z0 z1 z2 z3 z4 z5 z6
 exact⟨z0,z1,z2,z3,z4,z5,z6⟩
structure RmX (F0:Nat→Prop)(r0:RP)(w0:World)(B:Nat)(T:TypeId)(cs:Array Value)(R:RM)(w:World):Prop where
 ex:∃ r F,(r.a=r0.a∧r.s.a=r0.s.a)∧RmR w F r R∧(∀ R2 w3,RmS F r R2 w w3→RmS F0 r0 R2 w0 w3)∧¬ r.F B
 box:Blk w B T cs
section
variable {F0:Nat→Prop}{r0:RP}{w0 w w':World}{B:Nat}{T:TypeId}{cs:Array Value}{R R':RM}
theorem RmX.fin (h:RmX F0 r0 w0 B T cs R w):RmS F0 r0 R w0 w:=by
 obtain⟨⟨r,F,h1,h2,h3,h4⟩,h5⟩:=h;exact h3 R w (RmS.of_below h2 (Wac _ _))
theorem RmX.below (h:RmX F0 r0 w0 B T cs R w)(hb:Below w.heap.size w w'):RmX F0 r0 w0 B T cs R w':=by
 obtain⟨⟨r,F,h1,h2,h3,h4⟩,h5⟩:=h
 exact⟨⟨r,F,h1,h2.below hb,fun _ _ k=>h3 _ _ (RmS.from_below h2 hb k),h4⟩,h5.below hb h5.lt⟩
theorem RmX.call (h:RmX F0 r0 w0 B T cs R w){n:Nat}{args:Array Value}{ev:Value}(hc:∀ r F,r.a=r0.a∧r.s.a=r0.s.a→RmR w F r R→Calls prog n args w (fun e w'=>e=.returned ev∧RmS F r R' w w')) :
  Calls prog n args w (fun e w'=>e=.returned ev∧RmX F0 r0 w0 B T cs R' w'):=by
 obtain⟨⟨r,F,h1,h2,h3,h4⟩,h5⟩:=h;refine (hc r F h1 h2).mono ?_;rintro e w' ⟨rfl,hs⟩;obtain⟨r1,F1,a1,a2,a3,a4,a5,a6,a7,a8⟩:=RmS.next' h2 hs
 exact⟨rfl,⟨r1,F1,⟨a1.1.trans h1.1,a1.2.trans h1.2⟩,a3,fun R2 w3 k=>h3 _ _ (a8 _ _ k),fun e=>(a7 _ e).elim h4 (fun e=>by have:=h5.lt;omega)⟩,h5.only a4 h4⟩
theorem RmX.ptr (h:RmX F0 r0 w0 B T cs R w):w.cell? ⟨r0.a,0,none⟩=some (.pointer (some ⟨r0.s.a,0,none⟩))∧r0.a<w.heap.size:=by
 obtain⟨⟨r,F,h1,h2,h3,h4⟩,h5⟩:=h;obtain⟨z0,-,-,-⟩:=Qk h2.blk;rw[← h1.1,← h1.2]
 exact⟨z0,h2.blk.lt⟩
theorem RmX.hdl (h:RmX F0 r0 w0 B T cs R w):Hdl w:=by
 obtain⟨⟨r,F,h1,h2,h3,h4⟩,h5⟩:=h;exact h2.hd.1
theorem RmX.rev (h:RmX F0 r0 w0 B T cs R w):Calls prog 218 #[.pointer (some ⟨r0.s.a,0,none⟩)] w fun e w'=>e=.returned (.int .i64 (R.srv.log.length:Int))∧w'=w:=by
 obtain⟨⟨r,F,h1,h2,h3,h4⟩,h5⟩:=h;rw[← h1.2];exact Qip h2.srv
end
abbrev BX7 (B:Nat)(ra:Nat)(sp:Value)(a0 a1 a2 a3 a4 a5 a6:Value)(w':World):Prop:=Blk w' B 302 #[a0,a1,a2,a3,a4,a5,a6]∧w'.cell? ⟨B,0,none⟩=some a0∧w'.cell? ⟨B,1,none⟩=some a1∧w'.cell? ⟨B,2,none⟩=some a2∧w'.cell? ⟨B,3,none⟩=some a3∧w'.cell? ⟨B,4,none⟩=some a4∧w'.cell? ⟨B,5,none⟩=some a5∧w'.cell? ⟨B,6,none⟩=some a6∧w'.cell? ⟨ra,0,none⟩=some sp
theorem BX7.of {B ra:Nat}{sp a0 a1 a2 a3 a4 a5 a6:Value}{w':World}(h:Blk w' B 302 #[a0,a1,a2,a3,a4,a5,a6])(hr:w'.cell? ⟨ra,0,none⟩=some sp):BX7 B ra sp a0 a1 a2 a3 a4 a5 a6 w':=by
 obtain⟨z0,z1,z2,z3,z4,z5,z6⟩:=Qby h
 exact⟨h,z0,z1,z2,z3,z4,z5,z6,hr⟩
section
attribute [local go_sem] Qz
variable {F:Nat→Prop}{w:World}{r:RP}{R:RM}{p:PK}{v:Value}{C:CV}{c:CP}{N:Int}
theorem Qk7 (h:CmI w F r R p v C c N)(hk:p.kind=1)(hcl:R.cl.length≤1000000) :
  Calls prog 201 #[.pointer (some ⟨r.a,0,none⟩),pkV p v] w fun e w'=>e=.returned (.tuple #[])∧RmS F r (R.comes p) w w':=by
 have hpk:=(Wai.1 h.hc).1;obtain⟨b,o,cc,hv,hbb,c0⟩:=h.rm.vcs.one_at (k:=p.k) hpk (u:=.pointer (some ⟨c.a,0,none⟩)) (by unfold ptrs;rw[Wav,h.hc];rfl);obtain⟨z0,z1,z2,z3⟩:=Qk h.rm.blk;rw[hv] at z1;have lt:=h.rm.blk.lt;obtain⟨A,ca,hvv,-⟩:=h.op.sl;have HL:=Hm h;have HK:=Hm (h.k6 hcl);obtain⟨kind,k,rev,id,en⟩:=p;obtain⟨who,eid,op⟩:=en;dsimp only at hk hvv hpk c0 HK;subst hk hvv
 have HSZ:Hd (Qd op≤100000∧op.length≤200000):=⟨by
  obtain⟨-,-,g1,g2,g3,-⟩:=h.pk.ask rfl
  have:=Xh (fun p hp=>(g1 p hp).1)
  dsimp only at this g2 g3 ⊢;omega⟩
 obtain⟨t,ht⟩:∃ t,t=R.srv.take (k:Int) id rev op:=⟨_,rfl⟩;obtain⟨bx,hbxq⟩:∃ bx:Array Value,bx=#[.int .i64 1,.int .i64 (k:Int),.int .i64 rev,.int .i64 id,.int .i64 who,.int .i64 eid,.slice A op.length ca]:=⟨_,rfl⟩
 have HT:∀ W,Below w.heap.size w W→Blk W w.heap.size 302 bx→Calls prog 253 #[.pointer (some ⟨r.s.a,0,none⟩),.int .i64 (k:Int),.int .i64 id,.int .i64 rev,.slice A op.length ca] W fun e w2=>e=.returned (Q4 t.1)∧RmX F r w w.heap.size 302 bx { R with srv:=t.2 } w2:=by
  intro W hb hx;refine (Qlx (who:=(k:Int)) (id:=id) (rev:=rev) (op:=op) (v:=.slice A op.length ca) (h.below hb).rm.srv (h.below hb).rm.hd (by have:=h.ok.ln;omega) (by have:=h.tk;omega) HK.o (h.below hb).op HSZ.o.1 HSZ.o.2).mono ?_;intro e w2 h2;rw[← ht] at h2;obtain⟨rfl,hs2⟩:=(h.below hb).rm.served h2;obtain⟨r1,F1,a1,a2,a3,a4,a5,a6,a7,a8⟩:=RmS.next' (h.below hb).rm hs2;have hz:=hx.lt
  exact⟨rfl,⟨r1,F1,a1,a3,fun R2 w3 q=>RmS.from_below h.rm hb (a8 _ _ q),fun e=>(a7 _ e).elim (fun e=>by have:=h.rm.lt _ e;omega) (fun e=>by omega)⟩,hx.only a4 (fun e=>by have:=h.rm.lt _ e;omega)⟩
 have hln:t.2.log.length≤300:=by
  have:=(h.ok.served h.hC h.pk rfl).ln
  dsimp only at this;rw[ht];exact this
 have HR:Hd (R.comes ⟨1,k,rev,id,⟨who,eid,op⟩⟩=if t.1≠0∧t.1≠8 then (RM.tells { R with srv:=t.2 } k rev).send ⟨4,k,(t.2.log.length:Int),id,Zg⟩ else RM.tells { R with srv:=t.2 } k rev):=⟨by unfold RM.comes;rw[if_pos (rfl:(1:Int)=1),ht]⟩
 have HTS:Hd (∀ W,RmX F r w w.heap.size 302 bx { R with srv:=t.2 } W→Calls prog 254 #[.pointer (some ⟨r.a,0,none⟩),.int .i64 (k:Int),.int .i64 rev] W fun e w'=>e=.returned (.tuple #[])∧RmX F r w w.heap.size 302 bx (RM.tells { R with srv:=t.2 } k rev) w') :=
  ⟨fun W h1=>h1.call (fun r1 F1 ha h1=>by rw[← ha.1];exact Qjy (k:=k) (rev:=rev) h1 (by dsimp only;omega) (by have:=h.lost;dsimp only;omega))⟩
 have HLO:Hd (-1000000≤(RM.tells { R with srv:=t.2 } k rev).lost∧(RM.tells { R with srv:=t.2 } k rev).lost≤900000000):=⟨by
  have h0:=h.lost;unfold RM.tells;dsimp only
  split
  ·have:=RM.sends_lost { R with srv:=t.2 } (QF k rev.toNat (t.2.log.drop rev.toNat))
   rw[(XE _ _ _).2,War] at this;dsimp only at this;omega
  ·dsimp only;omega⟩
 have hsl2:=RM.tells_srv { R with srv:=t.2 } k rev;have HSR:=Hm hsl2.1
 have HSD:Hd (∀ W,RmX F r w w.heap.size 302 bx (RM.tells { R with srv:=t.2 } k rev) W→Calls prog 217 #[.pointer (some ⟨r.a,0,none⟩),.agg #[.int .i64 4,.int .i64 (k:Int),.int .i64 (t.2.log.length:Int),.int .i64 id,.int .i64 0,.int .i64 0,.slice none 0 0]] W fun e w'=>e=.returned (.tuple #[])∧RmX F r w w.heap.size 302 bx ((RM.tells { R with srv:=t.2 } k rev).send ⟨4,k,(t.2.log.length:Int),id,Zg⟩) w') :=
  ⟨fun W h1=>h1.call (fun r1 F1 ha h1=>by rw[← ha.1];exact JB (p:=⟨4,k,(t.2.log.length:Int),id,Zg⟩) (v:=.slice none 0 0) h1 (OpO.nil _ _) (by have:=HLO.o;omega))⟩
 have HRV:Hd (∀ W,RmX F r w w.heap.size 302 bx (RM.tells { R with srv:=t.2 } k rev) W→Calls prog 218 #[.pointer (some ⟨r.s.a,0,none⟩)] W fun e w'=>e=.returned (.int .i64 (t.2.log.length:Int))∧w'=W) :=
  ⟨fun W h1=>by have:=h1.rev;rw[HSR.o] at this;exact this⟩
 clear h hv hln hsl2 ht;unfold pkV;go_enter func201,ntmps201
 go_wp2_with fail;go_quiet (fail)
 obtain⟨W1,hW1⟩:∃ W,W=(w.alloc (.cells #[.int .i64 1,.int .i64 (k:Int),.int .i64 rev,.int .i64 id,.int .i64 who,.int .i64 eid,.slice A op.length ca] 302)).drewN nq:=⟨_,rfl⟩;have hb1:Below w.heap.size w W1:=by rw[hW1];exact Qo nq (Qb (Wac _ _) _)
 have hbx:Blk W1 w.heap.size 302 bx:=by rw[hW1,hbxq];exact Blk.new w _ _
 rw[← hW1];have HTK:=Hm (HT W1.drew (Qe hb1) hbx);clear z0 z1 z2 z3 c0 hbb hW1 hpk HT;obtain⟨z0,z1,z2,z3⟩:=Qk (HL.o.rm.below hb1).blk;have HQ:Hd (bx=#[.int .i64 1,.int .i64 (k:Int),.int .i64 rev,.int .i64 id,.int .i64 who,.int .i64 eid,.slice A op.length ca]):=⟨hbxq⟩;rw[hbxq] at hbx;obtain⟨q0,q1,q2,q3,q4,q5,q6⟩:=Qby hbx;have ql:=hbx.lt;have HBX:=Hm (BX7.of (ra:=r.a) (sp:=.pointer (some ⟨r.s.a,0,none⟩)) (hbx.drew_') z0);have hrl:r.a<W1.heap.size:=(HL.o.rm.below hb1).blk.lt;clear hb1 hbx hbxq z1 z2 z3;go_upto_region 4 with fail
 go_region_held3 (fun w'=>BX7 w.heap.size r.a (.pointer (some ⟨r.s.a,0,none⟩)) (.int .i64 1) (.int .i64 (k:Int)) (.int .i64 rev) (.int .i64 id) (.int .i64 who) (.int .i64 eid) (.slice A op.length ca) w')
  (first | exact HBX2.o | exact HBX.o | assumption)
  (first | (go_at_call 253;refine HTK.o.mono ?_;rintro e w2 ⟨rfl,h2⟩;have H2:=Hm h2;have hbx2:=h2.box;rw[HQ.o] at hbx2;have HBX2:=Hm (BX7.of (ra:=r.a) (sp:=.pointer (some ⟨r.s.a,0,none⟩)) hbx2 h2.ptr.1);clear h2 hbx2))
 all_goals
  obtain⟨-,y0,y1,y2,y3,y4,y5,y6,yr⟩:=HBX2.o;have yl:=H2.o.box.lt;have yrl:=H2.o.ptr.2;clear z0 q0 q1 q2 q3 q4 q5 q6 ql HTK HBX hrl
  by_cases h0:t.1=0
  ·have HZ:=Hm h0;rw[h0,YC];clear h0;go_wp2_with fail;refine (HTS.o _ H2.o).mono ?_;rintro e w3 ⟨rfl,h3⟩;have H3:=Hm h3;clear h3 y0 y1 y2 y3 y4 y5 y6 yr yl yrl;go_wp2_with fail;go_end0;rw[HR.o,if_neg (fun e=>e.1 HZ.o)]
   exact⟨rfl,H3.o.fin⟩
  ·have HZ:=Hm h0;have hq:Q4 t.1=.iface 31 (.int .i64 t.1):=if_neg h0;rw[hq];clear h0 hq;go_wp2_with fail;refine (HTS.o _ H2.o).mono ?_;rintro e w3 ⟨rfl,h3⟩;have H3:=Hm h3;clear h3 y0 y1 y2 y3 y4 y5 y6 yr yl yrl
   by_cases h8:t.1=8
   ·have H8:=Hm h8;rw[h8];clear h8;go_wp2_with fail;refine (X5 (.no 8) H3.o.hdl).mono ?_;rintro e w4 ⟨rfl,hb4⟩;have HB4:=Hm hb4;clear hb4;go_wp2_with fail;go_end0;rw[HR.o,if_neg (fun e=>e.2 H8.o)]
    exact⟨rfl,H3.o.fin.then_below HB4.o⟩
   ·have H8:=Hm h8;have hq8:(t.1 == (8:Int))=false:=by rw[Waf];exact h8
    clear h8;go_wp2_with fail;refine (X5 (.no t.1) H3.o.hdl).mono ?_;rintro e w4 ⟨rfl,hb4⟩;have H4:=Hm ((H3.o.below hb4).below (Qe (Wac _ _)));have hbx4:=(H3.o.below hb4).box;rw[HQ.o] at hbx4;have HBX4:=Hm (BX7.of (ra:=r.a) (sp:=.pointer (some ⟨r.s.a,0,none⟩)) (hbx4.drew_') (H3.o.below hb4).ptr.1);have hrl:r.a<w4.heap.size:=(H3.o.below hb4).ptr.2;have hbl:w.heap.size<w4.heap.size:=hbx4.lt;clear hb4 hbx4;go_upto_region 7 with fail
    go_region_held3 (fun w'=>BX7 w.heap.size r.a (.pointer (some ⟨r.s.a,0,none⟩)) (.int .i64 1) (.int .i64 (k:Int)) (.int .i64 rev) (.int .i64 id) (.int .i64 who) (.int .i64 eid) (.slice A op.length ca) w')
     (first | exact HBX5.o | exact HBX4.o | assumption)
     (first
      | (go_at_call 218;refine (HRV.o _ H4.o).mono ?_;rintro e w5 ⟨rfl,rfl⟩)
      | (go_at_call 217;refine (HSD.o _ H4.o).mono ?_;rintro e w5 ⟨rfl,h5⟩;have H5:=Hm h5;have hbx5:=h5.box;rw[HQ.o] at hbx5;have HBX5:=Hm (BX7.of (ra:=r.a) (sp:=.pointer (some ⟨r.s.a,0,none⟩)) hbx5 h5.ptr.1);clear h5 hbx5))
    all_goals
     go_wp2_with fail;go_end0;rw[HR.o,if_pos ⟨HZ.o,H8.o⟩]
     exact⟨rfl,H5.o.fin⟩
end
end
section
open Go.RowKit Go.Sort
theorem RmR.pk_at {F:Nat→Prop}{w:World}{r:RP}{R:RM}(h:RmR w F r R){i:Nat}{p:PK}(hp:R.way[i]?=some p):∃ v,r.L[i]?=some (p,v)∧OpO F w v p.en.op:=by
 have h1:=h.way;rw[← h1,Wav] at hp
 cases hx:r.L[i]? with
 | none=>rw[hx] at hp;cases hp
 | some x =>
  rw[hx] at hp;obtain⟨q,v⟩:=x
  cases hp
  exact⟨v,rfl,h.ops _ (List.mem_of_getElem? hx)⟩
section
attribute [local go_sem] Qz
variable {F:Nat→Prop}{w:World}{r:RP}{R:RM}{N B:Int}
theorem Qf4 {k:Nat}{C:CV}(h:RmR w F r R)(hb:RMb N B R)(_hN:N≤1000000)(hB:B≤800000000)(hC:R.cl[k]?=some C) :
  Calls prog 156 #[.pointer (some ⟨r.a,0,none⟩),.int .i64 (k:Int)] w fun e w'=>e=.returned .nilIface∧RmS F r (R.asks k) w w':=by
 obtain⟨c,hc,hcr⟩:=h.get hC;have hck:=hb.ok.cl k C hC;have HCL:=Hm (Qjh h hc);have hlost:-1000000000≤R.lost∧R.lost≤1000000000:=by have:=hb.l0;have:=hb.bd;omega
 have hwl:C.way.length≤1000000:=by
  cases hh:C.has
  ·rw[(hck.ok.no hh).2.1];simp
  ·obtain⟨X,hX,hp,-⟩:=hck.ok.yes hh
   have:=Xh (fun p hp=>(hX.arg p hp).1)
   have:=hX.sizes.1
   have:=hck.ok.sz
   omega
 have HAS:=Hm (Qrs hcr hwl);have HL:=Hm h;have HA:Hd (R.asks k=R.send (C.asks k)):=⟨by unfold RM.asks;rw[hC]⟩;have HFL:=Hm h.flt;have HLO:=Hm hlost;clear h hb hck hcr hlost hwl
 cases hh:C.has
 ·have HP:=Hm (CV.asks_no hh k);have HH:=Hm hh;clear hh;go_enter func156,ntmps156
  go_wp2_with (first
   | (go_at_call 202;refine HCL.o.mono ?_;rintro e w1 ⟨rfl,rfl⟩)
   | (go_at_call 216;refine HAS.o.mono ?_;rintro e w2 ⟨hb2,h2,-⟩;obtain rfl:=h2 HH.o;have HB2:=Hm hb2;clear hb2 h2)
   | (go_at_call 217;refine (JB (p:=⟨2,k,C.rev,0,Zg⟩) (v:=.slice none 0 0) (HL.o.below HB2.o) (OpO.nil _ _) HLO.o).mono ?_;rintro e w3 ⟨rfl,h3⟩;have H3:=Hm h3;clear h3))
  go_ret;rw[HA.o,HP.o]
  exact⟨rfl,RmS.from_below HL.o HB2.o H3.o⟩
 ·have HP:=Hm (CV.asks_yes hh k);have HH:=Hm hh;clear hh;go_enter func156,ntmps156
  go_wp2_with (first
   | (go_at_call 202;refine HCL.o.mono ?_;rintro e w1 ⟨rfl,rfl⟩)
   | (go_at_call 216;refine HAS.o.mono ?_;rintro e w2 ⟨hb2,-,h2⟩;obtain⟨v2,rfl,hs2,hf2⟩:=h2 HH.o;have HB2:=Hm hb2;have HO2:=Hm (OpO.frs hs2 hf2 HFL.o);obtain⟨A2,c2,rfl,-⟩:=hs2;clear hb2 h2 hf2)
   | (go_at_call 217;refine (JB (p:=⟨1,k,C.rev,C.id,⟨k,C.id,C.way⟩⟩) (v:=.slice A2 C.way.length c2) (HL.o.below HB2.o) HO2.o HLO.o).mono ?_;rintro e w3 ⟨rfl,h3⟩;have H3:=Hm h3;clear h3))
  go_ret;rw[HA.o,HP.o]
  exact⟨rfl,RmS.from_below HL.o HB2.o H3.o⟩
theorem RmR.outs {w3:World}{i g cap:Nat}(h:RmR w F r R)(hv:r.vw=.slice (some ⟨g,0,none⟩) R.way.length cap)(hi:i<R.way.length)
  (hd:w3.ownsRow 0 302 7 (.slice (some ⟨g,0,none⟩) (R.way.length-1) cap) (R.way.length-1) ((pks r.L).take (i*7)++(pks r.L).drop ((i+1)*7))) (ho:Only (fun j=>j=g) w w3):RmS F r (R.out i) w (w3.setCell ⟨r.a,2,none⟩ (.slice (some ⟨g,0,none⟩) (R.way.length-1) cap)):=by
 have hg:r.vw.ownBlock=some g:=by rw[hv];rfl
 have hag:r.a≠g:=fun e=>h.a_w (by rw[hg,e])
 have hO3:Only (fun j=>j=r.a) w3 (w3.setCell ⟨r.a,2,none⟩ (.slice (some ⟨g,0,none⟩) (R.way.length-1) cap)):=(Only.refl (fun j=>j=r.a) w3).setCell (p:=⟨r.a,2,none⟩) (.inl rfl) _;have hwl:=h.wl;have hl:(r.L.eraseIdx i).length=R.way.length-1:=by rw[List.length_eraseIdx,if_pos (by omega),hwl]
 have he:r.L.eraseIdx i=r.L.take i++r.L.drop (i+1):=List.eraseIdx_eq_take_drop_succ _ _;have hx:pks (r.L.eraseIdx i)=(pks r.L).take (i*7)++(pks r.L).drop ((i+1)*7):=by rw[he,Qet,Qlf,Qle]
 have hm:(r.L.eraseIdx i).map Prod.fst=R.way.eraseIdx i:=by rw[he,Wbo,List.map_take,List.map_drop,h.way,List.eraseIdx_eq_take_drop_succ]
 have hs:=h.ways (v':=.slice (some ⟨g,0,none⟩) (R.way.length-1) cap) (L':=r.L.eraseIdx i) (lost':=R.lost) ((ho.mono (fun j _ e=>.inr (by rw[hg,e]))).trans (hO3.mono (fun j _ e=>.inl e)))
  ((h.blk.only ho hag).set_ 2 _) (by rw[hl,hx];exact Q9 hd hO3 (fun k hk=>by cases hk;exact fun e=>hag e.symm)) (fun k hk=>.inl (by rw[hg];exact hk)) (fun x hx=>h.ops x (List.mem_of_mem_eraseIdx hx))
 rw[hm] at hs;exact hs
theorem RmR.one_cells (h:RmR w F r R):∀ u∈pks r.L,u.oneCell'=true:=by
 intro u hu;obtain⟨x,hx,hu⟩:=List.mem_flatMap.1 hu;obtain⟨A,c,e,-⟩:=(h.ops x hx).1;exact Qjj (v:=x.2) (by rw[e];rfl) x.1 u hu
theorem RmR.row (h:RmR w F r R){i:Nat}(hi:i<R.way.length):∃ g cap,r.vw=.slice (some ⟨g,0,none⟩) R.way.length cap∧g≠r.a∧w.ownsRow 0 302 7 (.slice (some ⟨g,0,none⟩) R.way.length cap) R.way.length (pks r.L):=by
 have hown:=h.own;rw[h.wl] at hown;rcases hown.2 with ⟨e,e2⟩ | ⟨g,cap,cur,hv,-⟩
 ·omega
 ·refine⟨g,cap,hv,fun e=>h.a_w (by rw[hv,← e];rfl),?_⟩;rw[hv] at hown;exact hown
theorem Qn6 {i:Nat}(h:RmR w F r R)(hi:i<R.way.length)(hm:R.way.length≤400) :
  Calls prog 146 #[.pointer (some ⟨r.a,0,none⟩),.int .i64 (i:Int)] w fun e w'=>e=.returned .nilIface∧RmS F r (R.out i) w w':=by
 obtain⟨z0,z1,z2,z3⟩:=Qk h.blk;have fz:=h.blk.frozen;have lt:=h.blk.lt;obtain⟨g,cap,hv,hga,hown⟩:=h.row hi;rw[hv] at z2;have HD:=Hm (Qi1 hown h.one_cells hi);have HV:=Hm hv;have HL:=Hm h;have HGA:=Hm hga;have HI:=Hm hi;clear h hown hv hga;go_enter func146,ntmps146
 go_wp2_with fail;refine HD.o.mono ?_;rintro e w3 ⟨rfl,ho3,hO3⟩;have hbk3:=HL.o.blk.only hO3 HGA.o.symm;obtain⟨y0,y1,y2,y3⟩:=Qk hbk3;have yf:=hbk3.frozen;have yl:=hbk3.lt;rw[HV.o] at y2;have HO3:=Hm (Wao ho3 hO3);clear ho3 hO3 hbk3 z0 z1 z2 z3 fz lt;go_wp2_with fail;go_ret
 exact⟨rfl,HL.o.outs HV.o HI.o HO3.o.1 HO3.o.2⟩
theorem Qn7 {i:Nat}{p:PK}(h:RmR w F r R)(hp:R.way[i]?=some p)(_hm:R.way.length≤400)(hl:-1000000000≤R.lost∧R.lost≤1000000000) :
  Calls prog 161 #[.pointer (some ⟨r.a,0,none⟩),.int .i64 (i:Int)] w fun e w'=>e=.returned .nilIface∧RmS F r (R.again i) w w':=by
 obtain⟨z0,z1,z2,z3⟩:=Qk h.blk;have hi:=(Wai.1 hp).1;obtain⟨g,cap,hv,hga,hown⟩:=h.row hi;obtain⟨v,hx,hop⟩:=h.pk_at hp;have hlx:=(Wai.1 hx).1;have hxe:r.L[i]=(p,v):=(Wai.1 hx).2;obtain⟨b,o,cc,hv2,hb,c0,c1,c2,c3,c4,c5,c6⟩:=(Sl.of_own hown).pk hi hlx
 cases hv2
 rw[hxe] at c0 c1 c2 c3 c4 c5 c6;rw[hv] at z2;obtain⟨A,ca,hvv,-⟩:=hop.sl;subst hvv;have HS:=Hm (JB h hop hl);unfold pkV at HS;have HA:Hd (R.again i=R.send p):=⟨by unfold RM.again;rw[hp]⟩;dsimp only at c0 c1 c2 c3 c4 c5 c6;rw[Nat.zero_add] at c0 c1 c2 c3 c4 c5 c6;clear h hown hv hga hp hx hlx hxe hop;go_enter func161,ntmps161
 go_wp2_with (go_at_call 217;refine HS.o.mono ?_;rintro e w3 ⟨rfl,h3⟩;have H3:=Hm h3;clear h3)
 go_ret;rw[HA.o]
 exact⟨rfl,H3.o⟩
theorem Qn8 {p:PK}{v:Value}{C:CV}{c:CP}(h:CmI w F r R p v C c N)(hcl:R.cl.length≤1000000) :
  Calls prog 201 #[.pointer (some ⟨r.a,0,none⟩),pkV p v] w fun e w'=>e=.returned (.tuple #[])∧RmS F r (R.comes p) w w':=by
 rcases h.pk.kd with hk | hk | hk | hk
 ·exact Qk7 h hk hcl
 ·exact Qvz h hk
 ·exact Qv0 h hk
 ·exact Qv1 h hk
theorem Qf5 {i:Nat}(h:RmR w F r R)(hb:RMb N B R)(hN:N≤1000000)(hB:B≤700000000)(hi:i<R.way.length)(hcl:R.cl.length≤1000000) :
  Calls prog 143 #[.pointer (some ⟨r.a,0,none⟩),.int .i64 (i:Int)] w fun e w'=>e=.returned .nilIface∧RmS F r (R.deliver i) w w':=by
 obtain⟨p,hp⟩:∃ p,R.way[i]?=some p:=⟨_,Waj hi⟩;obtain⟨z0,z1,z2,z3⟩:=Qk h.blk;have fz:=h.blk.frozen;have lt:=h.blk.lt;obtain⟨g,cap,hv,hga,hown⟩:=h.row hi;have hm:=hb.ok.wl;obtain⟨v,hx,hop⟩:=h.pk_at hp;have hlx:=(Wai.1 hx).1;have hxe:r.L[i]=(p,v):=(Wai.1 hx).2;obtain⟨b,o,cc,hv2,hbb,c0,c1,c2,c3,c4,c5,c6⟩:=(Sl.of_own hown).pk hi hlx
 cases hv2
 rw[hxe] at c0 c1 c2 c3 c4 c5 c6;rw[hv] at z2;obtain⟨A,ca,hvv,-⟩:=hop.sl;subst hvv;obtain⟨C,hC,hpk⟩:=hb.ok.way p (List.mem_of_getElem? hp);obtain⟨c,hc,-⟩:=h.get hC;have hbd:=hb.bd;have hl0:=hb.l0;have HD:=fun W hb=>Hm (Qi1 (Q9 hown (Only.of_below (S:=fun _=>False) (hb:Below w.heap.size w W)) (fun _ _ e=>e)) h.one_cells hi)
 have HR:Hd (R.deliver i=(R.out i).comes p):=⟨by unfold RM.deliver;rw[hp]⟩
 have HCM:Hd (∀ W r1 F1,RmR W F1 r1 (R.out i)→r1.cs[p.k]?.map CP.a=some c.a→OpO F1 W (.slice A p.en.op.length ca) p.en.op→Calls prog 201 #[.pointer (some ⟨r1.a,0,none⟩),pkV p (.slice A p.en.op.length ca)] W fun e w'=>e=.returned (.tuple #[])∧RmS F1 r1 ((R.out i).comes p) W w') :=
  ⟨fun W r1 F1 h1 hc1 ho=>by
   obtain⟨c1,hc1',-⟩:=h1.get (k:=p.k) (C:=C) hC;exact Qn8 ⟨h1,ho,hb.ok.out i,hN,by have:(R.out i).srv=R.srv:=rfl;rw[this];omega,by have:(R.out i).lost=R.lost:=rfl;rw[this];omega,hC,hc1',hpk⟩ hcl⟩
 have HC:=Hm hc;have HV:=Hm hv;have HL:=Hm h;have HGA:=Hm hga;have HI:=Hm hi;have HOP:=Hm hop;have hgl:g<w.heap.size:=hbb;dsimp only at c0 c1 c2 c3 c4 c5 c6;rw[Nat.zero_add] at c0 c1 c2 c3 c4 c5 c6;unfold pkV at HCM;clear h hown hv hga hp hx hlx hxe hop hC hpk hc hb hbd hl0;go_enter func143,ntmps143
 go_wp2_with fail;refine (HD _ (Qb (Wac _ _) _)).out.mono ?_;rintro e w3 ⟨rfl,ho3,hO3⟩;have hb0:Below w.heap.size w (w.alloc (.cells #[.int .i64 p.kind,.int .i64 (p.k:Int),.int .i64 p.rev,.int .i64 p.id,.int .i64 p.en.who,.int .i64 p.en.id,.slice A p.en.op.length ca] 302)):=Qb (Wac _ _) _;have HB0:=Hm hb0;have hbk3:=(HL.o.below hb0).blk.only hO3 HGA.o.symm;have hbx3:=(Blk.new w 302 #[.int .i64 p.kind,.int .i64 (p.k:Int),.int .i64 p.rev,.int .i64 p.id,.int .i64 p.en.who,.int .i64 p.en.id,.slice A p.en.op.length ca]).only hO3 (fun e=>by omega);have hs3:=(HL.o.below hb0).outs HV.o HI.o ho3 hO3;have HS3:=Hm hs3;obtain⟨y0,y1,y2,y3⟩:=Qk hbk3;obtain⟨x0,x1,x2,x3,x4,x5,x6⟩:=Qby hbx3;have yf:=hbk3.frozen;have yl:=hbk3.lt;have xl:=hbx3.lt;have hne:r.a≠w.heap.size:=by omega
 have hne2:w.heap.size≠r.a:=by omega
 rw[HV.o] at y2;clear ho3 hO3 hbk3 hbx3 hs3 hb0 z0 z1 z2 z3 fz c0 c1 c2 c3 c4 c5 c6;obtain⟨r4,F4,ha4,hcs4,hR4,ho4,hoF4,hgr4,hnx4⟩:=RmS.next (HL.o.below HB0.o) HS3.o
 have hcc:r4.cs[p.k]?.map CP.a=some c.a:=by
  rw[← Wav,hcs4,Wav,HC.o]
  rfl
 have HCL:=Hm (HCM.o _ r4 F4 hR4 hcc ((HOP.o.below HB0.o (Grow.refl _ _)).only hoF4 hgr4));rw[ha4.1] at HCL;have HNX:=Hm hnx4;clear ha4 hcs4 hR4 ho4 hoF4 hgr4 hnx4 hcc;go_wp2_with (go_at_call 201;refine HCL.o.mono ?_;rintro e w5 ⟨rfl,h5⟩;have H5:=Hm h5;clear h5)
 go_ret;rw[HR.o]
 exact⟨rfl,RmS.from_below HL.o HB0.o (HNX.o _ _ H5.o)⟩
end
end
section
open Go.RowKit Go.Sort
section
attribute [local go_sem] Qz
variable {F:Nat→Prop}{w:World}{r:RP}{R:RM}
theorem Qkc (h:RmR w F r R){k:Int}(hk:¬ (0≤k∧k<R.cl.length)) :
  Calls prog 156 #[.pointer (some ⟨r.a,0,none⟩),.int .i64 k] w fun e w'=>e=.returned (errno 2)∧w'=w:=by
 have HC:=Hm (Qji h (k:=k) (by rw[h.len];exact hk));clear h hk;go_enter func156,ntmps156
 go_wp2_with (go_at_call 202;refine HC.o.mono ?_;rintro e w1 ⟨rfl,rfl⟩;unfold errno)
 go_ret
 exact⟨rfl,rfl⟩
theorem Qkd (h:RmR w F r R){i:Int}(hi:¬ (0≤i∧i<R.way.length)) :
  Calls prog 143 #[.pointer (some ⟨r.a,0,none⟩),.int .i64 i] w fun e w'=>e=.returned (errno 2)∧w'=w:=by
 obtain⟨z0,z1,z2,z3⟩:=Qk h.blk;obtain⟨A,c,hv⟩:=Qm h.own;rw[hv,h.wl] at z2;clear h hv
 by_cases h0:i<0
 ·go_enter func143,ntmps143
  go_wp2_with fail;go_ret
  exact⟨rfl,rfl⟩
 ·have h1:(R.way.length:Int)≤i:=by omega
  clear hi;go_enter func143,ntmps143
  go_wp2_with fail;go_ret
  exact⟨rfl,rfl⟩
theorem Qke (h:RmR w F r R){i:Int}(hi:¬ (0≤i∧i<R.way.length)) :
  Calls prog 146 #[.pointer (some ⟨r.a,0,none⟩),.int .i64 i] w fun e w'=>e=.returned (errno 2)∧w'=w:=by
 obtain⟨z0,z1,z2,z3⟩:=Qk h.blk;obtain⟨A,c,hv⟩:=Qm h.own;rw[hv,h.wl] at z2;clear h hv
 by_cases h0:i<0
 ·go_enter func146,ntmps146
  go_wp2_with fail;go_ret
  exact⟨rfl,rfl⟩
 ·have h1:(R.way.length:Int)≤i:=by omega
  clear hi;go_enter func146,ntmps146
  go_wp2_with fail;go_ret
  exact⟨rfl,rfl⟩
theorem Qkf (h:RmR w F r R){i:Int}(hi:¬ (0≤i∧i<R.way.length)) :
  Calls prog 161 #[.pointer (some ⟨r.a,0,none⟩),.int .i64 i] w fun e w'=>e=.returned (errno 2)∧w'=w:=by
 obtain⟨z0,z1,z2,z3⟩:=Qk h.blk;obtain⟨A,c,hv⟩:=Qm h.own;rw[hv,h.wl] at z2;clear h hv
 by_cases h0:i<0
 ·go_enter func161,ntmps161
  go_wp2_with fail;go_ret
  exact⟨rfl,rfl⟩
 ·have h1:(R.way.length:Int)≤i:=by omega
  clear hi;go_enter func161,ntmps161
  go_wp2_with fail;go_ret
  exact⟨rfl,rfl⟩
end
end
section
open Go.RowKit Go.Sort
section
attribute [local go_sem] Qz
variable {F:Nat→Prop}{w:World}{r:RP}{R:RM}{N B:Int}
structure FlI (F:Nat→Prop)(r:RP)(R:RM)(N B:Int)(w:World)(n:Nat)(Rk:RM)(wr:World):Prop where
 wt:wts Rk.way=n
 ok:RMb N B Rk
 fl:Rk.flows=R.flows
 cl:Rk.cl.length=R.cl.length
 rm:RmS F r Rk w wr
theorem Qes (h:RmR w F r R)(hb:RMb N B R)(hN:N≤1000000)(hB:B≤700000000)(hcl:R.cl.length≤1000000) :
  Calls prog 215 #[.pointer (some ⟨r.a,0,none⟩)] w fun e w'=>e=.returned (.tuple #[])∧RmS F r R.flows w w':=by
 have HL:=Hm h;have HN:=Hm (Wao hN (Wao hB hcl));have HS:=Hm (FlI.mk (F:=F) (r:=r) (R:=R) (N:=N) (B:=B) (w:=w) (n:=wts R.way) (Rk:=R) (wr:=w) rfl hb rfl rfl (RmS.of_below h (Wac _ _)));obtain⟨n0,hn0⟩:∃ n,n=wts R.way:=⟨_,rfl⟩;rw[← hn0] at HS;clear h hb hN hB hcl hn0;go_enter func215,ntmps215
 go_wp2_with fail
 go_loopg [] n0 (fun gk wr=>∃ Rk:RM,FlI F r R N B w gk Rk wr)
 case atStart=>exact⟨R,HS.o⟩
 case round =>
  obtain⟨Rk,hI⟩:=hrel;have HI:=Hm hI;obtain⟨r1,F1,ha,hcs,hR,ho,hoF,hgr,hnx⟩:=RmS.next HL.o hI.rm;obtain⟨z0,z1,z2,z3⟩:=Qk hR.blk;obtain⟨A,c,hv⟩:=Qm hR.own;rw[hv,hR.wl] at z2;rw[ha.1] at z2;have HR:=Hm hR;have HA:=Hm ha.1;have HNX:=Hm hnx;have lt:=hR.blk.lt;rw[ha.1] at lt;clear HS hI hcs ho hoF hgr hnx hv z0 z1 z3 ha hR
  by_cases hw:Rk.way=[]
  ·have hl:Rk.way.length=0:=by rw[hw];rfl
   have HW:=Hm hw;clear hw;go_wp2_with fail;go_end0;have h1:=HI.o.fl;rw[RM.flows_nil HW.o] at h1;rw[← h1]
   exact⟨rfl,HI.o.rm⟩
  ·have hl:0<Rk.way.length:=Wax.2 hw;have HW:=Hm hw;have hD:=Qf5 HR.o HI.o.ok HN.o.1 HN.o.2.1 hl (by rw[HI.o.cl];exact HN.o.2.2);rw[HA.o] at hD;have HD:=Hm hD;clear hw hD;go_wp2_with (go_at_call 143;refine HD.o.mono ?_;rintro e w3 ⟨rfl,h3⟩;have H3:=Hm h3;clear h3)
   go_roundg (wts (Rk.deliver 0).way)
   case measure =>
    cases hl2:Rk.way with
    | nil=>exact absurd hl2 HW.o
    | cons p l =>
     have:=HI.o.ok.ok.lighter hl2
     rw[HI.o.wt] at this;exact this
   case rel =>
    exact⟨Rk.deliver 0,rfl,HI.o.ok.deliver 0,by rw[← HI.o.fl,HI.o.ok.ok.flows_cons HW.o],by rw[Rk.deliver_cl 0];exact HI.o.cl,HNX.o _ _ H3.o⟩
structure QuI (F:Nat→Prop)(r:RP)(R:RM)(N B:Int)(w:World)(n:Nat)(wr:World):Prop where
 ok:RMb N (B+n*1000) (R.flows.turns n)
 rm:RmS F r (R.flows.turns n) w wr
theorem Qk8 (h:RmR w F r R)(hb:RMb N B R)(hN:N≤1000000)(hB:B≤600000000)(hcl:R.cl.length≤1000) :
  Calls prog 150 #[.pointer (some ⟨r.a,0,none⟩)] w fun e w'=>e=.returned (.tuple #[])∧RmS F r R.quiet w w':=by
 have HL:=Hm h;have HN:=Hm (Wao hN (Wao hB hcl));have HFL:=Hm (Qes h hb hN (by omega) (by omega));have hfc:=hb.ok.flows_cl;have HFC:=Hm hfc;have HFB:=Hm hb.flows;have HFW:=Hm hb.ok.flows.2;clear h hb hN hB;go_enter func150,ntmps150
 go_wp2_with fail;refine HFL.o.mono ?_;rintro e w1 ⟨rfl,h1⟩;obtain⟨r1,F1,ha,hcs,hR,ho,hoF,hgr,hnx⟩:=RmS.next HL.o h1;obtain⟨z0,z1,z2,z3⟩:=Qk hR.blk;obtain⟨A,c,hv,-⟩:=hR.vcs;rw[hv,hR.len,hfc] at z1;rw[ha.1] at z1;have lt:=hR.blk.lt;rw[ha.1] at lt;have H1:=Hm h1;obtain⟨m,hm⟩:∃ m,m=R.cl.length:=⟨_,rfl⟩;rw[← hm] at z1;have hml:m≤1000:=by omega
 have HM:=Hm hm;clear h1 ha hcs hR ho hoF hgr hnx hv z0 z2 z3 hfc hcl hm;go_wp2_with fail
 go_loopw [10] (fun i wr=>∃ j:Nat,j≤m∧i=.int .i64 j∧QuI F r R N B w j wr) (fun i _=>m-(intOf i).toNat)
 case atStart=>exact⟨0,by omega,rfl,by simpa [RM.turns] using HFB.o,by simpa [RM.turns] using H1.o⟩
 case round =>
  obtain⟨j,hj,rfl,hq⟩:=hrel;have HQ:=Hm hq;clear hq z1
  by_cases hjm:j<m
  ·have htl:=(HFB.o.ok.turns HFW.o j).2.2.1;obtain⟨C,hC⟩:∃ C,(R.flows.turns j).cl[j]?=some C:=⟨_,Waj (by rw[htl,HFC.o,← HM.o];exact hjm)⟩;obtain⟨r1,F1,ha,hcs,hR,ho,hoF,hgr,hnx⟩:=RmS.next HL.o HQ.o.rm;have hsd:=Qf4 hR HQ.o.ok HN.o.1 (by have:=HN.o.2.1;omega) hC;rw[ha.1] at hsd;have HSD:=Hm hsd;have HNX:=Hm hnx;have HA:=Hm (Wao ha hR);have HTL:=Hm htl;clear ha hcs hR ho hoF hgr hnx hsd hC htl;go_wp2_with (go_at_call 156;refine HSD.o.mono ?_;rintro e w2 ⟨rfl,h2⟩;have H2:=Hm h2;clear h2)
   obtain⟨r2,F2,ha2,hcs2,hR2,ho2,hoF2,hgr2,hnx2⟩:=RmS.next HA.o.2 H2.o;have hfl:=Qes hR2 (HQ.o.ok.asks j) HN.o.1 (by have:=HN.o.2.1;omega) (by rw[(RM.asks_srv _ _).2,HTL.o,HFC.o];have:=HN.o.2.2;omega);rw[ha2.1,HA.o.1.1] at hfl;have HFL2:=Hm hfl;have HNX2:=Hm hnx2;clear hfl ha2 hcs2 hR2 ho2 hoF2 hgr2 hnx2;go_wp2_with (go_at_call 215;refine HFL2.o.mono ?_;rintro e w3 ⟨rfl,h3⟩;have H3:=Hm h3;clear h3)
   refine⟨⟨j+1,by omega,by go_num,?_,?_⟩,by simp only[intOf];omega⟩
   ·rw[RM.turns_succ]
    have:=(HQ.o.ok.asks j).flows
    exact this.mono (Wba _) (by omega)
   ·rw[RM.turns_succ];exact HNX.o _ _ (HNX2.o _ _ H3.o)
  ·obtain rfl:j=m:=by omega
   go_wp2_with fail;go_end0
   have:=HQ.o.rm
   rw[HM.o] at this
   exact⟨rfl,this⟩
end
end
section
open Go.RowKit Go.Sort
theorem Qph:El prog 161 165 1 8:=El.mk' underlying161 (by kernel_rfl) (by decide)
def RNF (g:Nat)(s:SP)(vc:Value)(cs:List CP)(j:Nat):Prop:=j=g∨vc.ownBlock=some j∨s.F j∨∃ (i:Nat) (c:CP),cs[i]?=some c∧c.F j
structure RNI (G:Nat→Prop)(w wr:World)(g:Nat)(s:SP)(vc:Value)(cs:List CP)(us:List Int)(R:List Int):Prop where
 bel:Below w.heap.size w wr
 blk:Blk wr g 164 #[.pointer (some ⟨s.a,0,none⟩),vc,.slice none 0 0,.int .i64 0]
 srv:SrvR wr (fun j=>RNF g s vc cs j∨G j) s (SV.new (U.encs R))
 cli:∀ (i:Nat) (c:CP),cs[i]?=some c→∃ u,us[i]?=some u∧CliR wr (fun j=>RNF g s vc cs j∨G j) c (CV.new i u R)
 own:wr.ownsRow w.heap.size 165 1 vc cs.length (ptrs cs)
 ap:∀ (i j:Nat) (c c':CP),i≠j→cs[i]?=some c→cs[j]?=some c'→c.a≠c'.a∧c.f≠c'.f
 new:∀ j,RNF g s vc cs j→w.heap.size≤j
 old:∀ j,G j→j<w.heap.size
section
variable {G:Nat→Prop}{w wr w1 w2 w3:World}{g:Nat}{s:SP}{vc v':Value}{cs:List CP}{us R:List Int}{c:CP}{u:Int}
theorem RNI.s_ty (h:RNI G w wr g s vc cs us R){j:Nat}(hj:s.F j):j≠g∧vc.ownBlock≠some j:=by
 refine⟨fun e=>?_,fun e=>?_⟩
 ·subst e;have h1:=h.blk.tyo;rcases h.srv.ty hj with h2 | h2 | h2<;>rw[h1] at h2<;>exact absurd h2 (by decide)
 ·have h1:=Xy h.own e;rcases h.srv.ty hj with h2 | h2 | h2<;>rw[h1] at h2<;>exact absurd h2 (by decide)
theorem RNI.c_ty (h:RNI G w wr g s vc cs us R){i:Nat}{c:CP}(hc:cs[i]?=some c){j:Nat}(hj:c.F j):j≠g∧vc.ownBlock≠some j:=by
 obtain⟨u,-,hC⟩:=h.cli i c hc;obtain⟨t1,t2⟩:=hC.ty;refine⟨fun e=>?_,fun e=>?_⟩
 ·have h1:=h.blk.tyo;rcases hj with e1 | e1
  ·rw[← e1,e,h1] at t1;exact absurd t1 (by decide)
  ·rw[← e1,e,h1] at t2;exact absurd t2 (by decide)
 ·have h1:=Xy h.own e;rcases hj with e1 | e1
  ·rw[e1,t1] at h1;exact absurd h1 (by decide)
  ·rw[e1,t2] at h1;exact absurd h1 (by decide)
theorem RNI.g_ty (h:RNI G w wr g s vc cs us R):vc.ownBlock≠some g:=fun e=>by
 have h1:=Xy h.own e;rw[h.blk.tyo] at h1;exact absurd h1 (by decide)
theorem RNI.more (h:RNI G w wr g s vc cs us R)(hu:us[cs.length]?=some u)(h1:Below wr.heap.size wr w1)(hc:∀ j,c.F j→wr.heap.size≤j)(hcl:∀ F,(∀ j,c.F j→F j)→(∀ j,F j→c.F j∨j<wr.heap.size)→CliR w1 F c (CV.new cs.length u R))
  (h2:Below w1.heap.size w1 w2) (h3:w3.ownsRow w.heap.size 165 1 v' (cs.length+1) (ptrs cs++[.pointer (some ⟨c.a,0,none⟩)])) (hg:w2.grownBy w3 vc.ownBlock) (hn:∀ k,v'.ownBlock=some k→vc.ownBlock=some k∨w2.heap.size≤k) :
  RNI G w (w3.setCell ⟨g,1,none⟩ v') g s v' (cs++[c]) us R:=by
 have z0:=h.bel.size;have z1:=h1.size;have z2:=h2.size;have hlt:=h.srv.flt;have hO3:Only (fun j=>j=g) w3 (w3.setCell ⟨g,1,none⟩ v'):=(Only.refl (fun j=>j=g) w3).setCell (p:=⟨g,1,none⟩) (.inl rfl) _;have hO2:=Only.of_grown hg;have z3:=hO2.size;have z4:=hO3.size;have hgo:∀ G0 w0,Only G0 w0 w2→(∀ j,G0 j→False)→Only (fun j=>j=g∨vc.ownBlock=some j) w0 (w3.setCell ⟨g,1,none⟩ v'):=fun G0 w0 h0 h0f=>((h0.mono (fun j _ e=>(h0f j e).elim)).trans (hO2.mono (fun j _ e=>.inr e.symm))).trans (hO3.mono (fun j _ e=>.inl e))
 have hOr:=hgo _ wr (Only.of_below (S:=fun _=>False) (Qa h1 h2)) (fun _ e=>e);have hO1:=hgo _ w1 (Only.of_below (S:=fun _=>False) h2) (fun _ e=>e);have hget:∀ i ci,(cs++[c])[i]?=some ci→cs[i]?=some ci∨(i=cs.length∧ci=c):=fun i ci hi=>getElem?_snoc hi
 have hlast:(cs++[c])[cs.length]?=some c:=by simp
 have hin:∀ i ci,cs[i]?=some ci→(cs++[c])[i]?=some ci:=fun i ci hi=>by rw[List.getElem?_append_left (Wai.1 hi).1];exact hi
 have hF:∀ j,RNF g s v' (cs++[c]) j→RNF g s vc cs j∨c.F j∨(v'.ownBlock=some j∧w2.heap.size≤j):=by
  rintro j (e | e | e | ⟨i,ci,hi,e⟩)
  ·exact .inl (.inl e)
  ·rcases hn j e with e2 | e2
   ·exact .inl (.inr (.inl e2))
   ·exact .inr (.inr ⟨e,e2⟩)
  ·exact .inl (.inr (.inr (.inl e)))
  ·rcases hget i ci hi with hi | ⟨-,rfl⟩
   ·exact .inl (.inr (.inr (.inr ⟨i,ci,hi,e⟩)))
   ·exact .inr (.inl e)
 have hFg:∀ j,(RNF g s v' (cs++[c]) j∨G j)→(RNF g s vc cs j∨G j)∨c.F j∨(v'.ownBlock=some j∧w2.heap.size≤j):=fun j hj=>hj.elim (fun e=>(hF j e).imp_left .inl) (fun e=>.inl (.inr e))
 have hgr:Grow (fun j=>RNF g s vc cs j∨G j) (fun j=>RNF g s v' (cs++[c]) j∨G j) wr.heap.size:=fun j hj=>by
  rcases hFg j hj with e | e | e
  ·exact .inl e
  ·exact .inr (hc j e)
  ·exact .inr (by omega)
 have hG0:∀ j,(j=g∨vc.ownBlock=some j)→RNF g s vc cs j:=fun j hj=>hj.elim .inl (fun e=>.inr (.inl e))
 have hG:∀ j,(j=g∨vc.ownBlock=some j)→(RNF g s vc cs j∨G j):=fun j hj=>.inl (hG0 j hj)
 have hcv:=hcl (fun j=>(RNF g s vc cs j∨G j)∨c.F j) (fun _ e=>.inr e) (fun j hj=>hj.elim (fun e=>.inr (hlt j e)) .inl)
 have hfl:∀ j,(RNF g s v' (cs++[c]) j∨G j)→j<(w3.setCell ⟨g,1,none⟩ v').heap.size:=fun j hj=>by
  have hz:w3.heap.size≤(w3.setCell ⟨g,1,none⟩ v').heap.size:=z4;rcases hFg j hj with e | e | ⟨e,-⟩
  ·have:=hlt j e;omega
  ·have:=hcv.lt j e;omega
  ·have:=(h3.lt j e).2;omega
 have hcG:∀ j,c.F j→¬ (j=g∨vc.ownBlock=some j):=fun j hj e=>by
  have:=hlt j (hG j e)
  have:=hc j hj
  omega
 have hng:v'.ownBlock≠some g:=fun e=>by
  rcases hn g e with e | e
  ·exact h.g_ty e
  ·have:=h.blk.lt;omega
 have hcf:∀ (i:Nat) (ci:CP),cs[i]?=some ci→ci.a≠c.a∧ci.f≠c.f:=fun i ci hi=>by
  obtain⟨u',-,hC⟩:=h.cli i ci hi;have a1:=hC.lt ci.a (.inl rfl);have a2:=hC.lt ci.f (.inr rfl);have b1:=hc c.a (.inl rfl);have b2:=hc c.f (.inr rfl)
  exact⟨by omega,by omega⟩
 refine⟨⟨?_,?_,?_,?_,?_⟩,?_,?_,?_,?_,?_,?_,h.old⟩
 ·exact hOr.os.trans h.bel.os
 ·exact hOr.tape.trans h.bel.tape
 ·exact hOr.output.trans h.bel.output
 ·exact Wbf z0 hOr.size
 ·intro k hk;exact (hOr.block k (by omega) (fun e=>by have:=h.new k (hG0 k e);omega)).trans (h.bel.block k hk)
 ·exact (((h.blk.below h1 h.blk.lt).below h2 (Wal h.blk.lt z1)).only hO2 (fun e=>h.g_ty e.symm)).set_ 1 v'
 ·exact h.srv.only hOr hG (fun j hj e=>e.elim (h.s_ty hj).1 (h.s_ty hj).2) hgr (fun j hj=>.inl (.inr (.inr (.inl hj)))) hfl
 ·intro i ci hi;rcases hget i ci hi with hi | ⟨rfl,rfl⟩
  ·obtain⟨u',hu',hC⟩:=h.cli i ci hi
   exact⟨u',hu',hC.only hOr hG (fun j hj e=>e.elim (h.c_ty hi hj).1 (h.c_ty hi hj).2) hgr (fun j hj=>.inl (.inr (.inr (.inr ⟨i,ci,hin i ci hi,hj⟩)))) hfl⟩
  ·exact⟨u,hu,hcv.only hO1 (fun j e=>.inl (hG j e)) hcG (fun j hj=>by
    rcases hFg j hj with e | e | e
    ·exact .inl (.inl e)
    ·exact .inl (.inr e)
    ·exact .inr (by omega)) (fun j hj=>.inl (.inr (.inr (.inr ⟨_,_,hlast,hj⟩)))) hfl⟩
 ·rw[Wad];have e:ptrs (cs++[c])=ptrs cs++[.pointer (some ⟨c.a,0,none⟩)]:=by unfold ptrs;simp
  rw[e];exact Q9 h3 hO3 (fun k hk e=>hng (by rw[hk,e]))
 ·intro i j ci cj hij hi hj;rcases hget i ci hi with hi' | ⟨rfl,rfl⟩<;>rcases hget j cj hj with hj' | ⟨rfl,rfl⟩
  ·exact h.ap i j ci cj hij hi' hj'
  ·exact hcf i ci hi'
  ·obtain⟨b1,b2⟩:=hcf j cj hj'
   exact⟨fun e=>b1 e.symm,fun e=>b2 e.symm⟩
  ·exact absurd rfl hij
 ·intro j hj;rcases hF j hj with e | e | e
  ·exact h.new j e
  ·have:=hc j e;omega
  ·omega
theorem RNI.done (h:RNI G w wr g s vc cs us R)(hl:cs.length=us.length)(hd:Zn G w):∃ r:RP,r.a=g∧(∀ j,r.F j→w.heap.size≤j)∧RmR wr (fun j=>r.F j∨G j) r (RM.new R us):=by
 obtain⟨r,hr⟩:∃ r:RP,r=⟨g,s,vc,cs,.slice none 0 0,[]⟩:=⟨_,rfl⟩
 have hF:∀ j,r.F j→RNF g s vc cs j:=by
  rw[hr];rintro j (e | e | ⟨i,c,hi,e⟩ | e)
  ·exact .inl e
  ·exact .inr (.inr (.inl e))
  ·exact .inr (.inr (.inr ⟨i,c,hi,e⟩))
  ·cases e
 have hgr:Grow (fun j=>RNF g s vc cs j∨G j) (fun j=>r.F j∨G j) wr.heap.size:=fun j hj=>.inl (hj.imp_left (hF j))
 have hfl:∀ j,(r.F j∨G j)→j<wr.heap.size:=fun j hj=>h.srv.flt j (hj.imp_left (hF j))
 have hnf:∀ j,vc.ownBlock=some j→¬ r.F j:=fun j hv hj=>by
  rw[hr] at hj;rcases hj with e | e | ⟨i,c,hi,e⟩ | e
  ·exact h.g_ty (by rw[hv,e])
  ·exact (h.s_ty e).2 hv
  ·exact (h.c_ty hi e).2 hv
  ·cases e
 have hO:Only (fun _=>False) wr wr:=Only.refl _ _;have hdl:Zn (fun j=>r.F j∨G j) wr:=⟨hd.1.below h.bel,fun e=>e.elim (fun e=>by have:=h.new _ (hF _ e);have:=hd.1.lt;omega) hd.2⟩;have hsv:SrvR wr (fun j=>r.F j∨G j) s (SV.new (U.encs R)):=h.srv.only hO (fun _ e=>e.elim) (fun _ _ e=>e) hgr (fun j hj=>by rw[hr];exact .inl (.inr (.inl hj))) hfl;refine⟨r,by rw[hr],fun j hj=>h.new j (hF j hj),?_⟩;subst hr;refine⟨hdl,h.blk,hsv,?_,fun k c C hc hC=>?_,Sl.of_own h.own,fun ad n c' e hn=>?_,World.ownsRow_nil _ _ _ _,rfl,(fun x hx=>by cases hx),h.ap,fun _ e=>.inl e,hfl⟩
 ·show cs.length=(us.zipIdx.map _).length
  rw[Wbi,List.length_zipIdx,hl]
 ·obtain⟨u,hu,hC'⟩:=h.cli k c hc;obtain⟨u',hu',rfl⟩:=RM.new_cl hC;obtain rfl:=getElem?_uniq hu hu';exact hC'.only hO (fun _ e=>e.elim) (fun _ _ e=>e) hgr (fun j hj=>.inl (.inr (.inr (.inl ⟨k,c,hc,hj⟩)))) hfl
 ·have e:vc=.slice (some ad) n c':=e;have e2:vc.ownBlock=some ad.block:=by rw[e];rfl
  exact fun hh=>hh.elim (hnf _ e2) (fun hh=>by have:=h.old _ hh;have:=(h.own.lt _ e2).1;omega)
end
theorem RNI.start {G:Nat→Prop}{w w1:World}{s:SP}{us R:List Int}(hG:∀ j,G j→j<w.heap.size)(h1:Below w.heap.size w w1)(hF:∀ j,s.F j→w.heap.size≤j)(hs:SrvR w1 (fun j=>s.F j∨G j) s (SV.new (U.encs R))) :
  RNI G w (w1.alloc (.cells #[.pointer (some ⟨s.a,0,none⟩),.slice none 0 0,.slice none 0 0,.int .i64 0] 164)) w1.heap.size s (.slice none 0 0) [] us R:=by
 have z1:=h1.size;have hb:Below w1.heap.size w1 (w1.alloc (.cells #[.pointer (some ⟨s.a,0,none⟩),.slice none 0 0,.slice none 0 0,.int .i64 0] 164)):=Qb (Wac _ _) _
 have hN:∀ j,RNF w1.heap.size s (.slice none 0 0) [] j→j=w1.heap.size∨s.F j:=by
  rintro j (e | e | e | ⟨i,c,hi,-⟩)
  ·exact .inl e
  ·cases e
  ·exact .inr e
  ·cases hi
 refine⟨Qb h1 _,Blk.new w1 _ _,hs.only (G:=fun _=>False) (Only.of_below hb) (fun _ e=>e.elim) (fun _ _ e=>e) (fun j hj=>hj.elim (fun hj=>(hN j hj).elim (fun e=>.inr (by omega)) (fun e=>.inl (.inl e))) (fun e=>.inl (.inr e))) (fun j hj=>.inl (.inr (.inr (.inl hj)))) (fun j hj=>?_),(fun i c hi=>by cases hi),World.ownsRow_nil _ _ _ _,(fun i j c c' _ hi=>by cases hi),fun j hj=>(hN j hj).elim (fun e=>by omega) (hF j),hG⟩;rw[Waq];rcases hj with hj | e
 ·rcases hN j hj with e | e
  ·omega
  ·have:=hs.flt j (.inl e);omega
 ·have:=hG j e;omega
theorem Qpi (c:CP):∀ u∈([.pointer (some ⟨c.a,0,none⟩)]:List Value),u.oneCell'=true:=by
 intro u hu;obtain rfl:=Wbd.1 hu
 rfl
def Qpj (G:Nat→Prop)(rs:List Int)(rest:U.Bs)(us:List Int)(w:World)(e:Ending)(w':World):Prop :=
 Below w.heap.size w w'∧(rest≠[]→∃ g,e=.returned (.tuple #[.pointer none,atV g])∧QU w' g 3 (bl rs)) ∧
  (rest=[]→2000<bl rs→e=.returned (.tuple #[.pointer none,errno 12])) ∧
  (rest=[]→bl rs≤2000→6<us.length→e=.returned (.tuple #[.pointer none,errno 4])) ∧
  (rest=[]→bl rs≤2000→us.length≤6→(∃ u∈us,¬ (1≤u∧u≤3))→e=.returned (.tuple #[.pointer none,errno 1])) ∧
  (rest=[]→bl rs≤2000→us.length≤6→(∀ u∈us,1≤u∧u≤3)→∃ r:RP,e=.returned (.tuple #[.pointer (some ⟨r.a,0,none⟩),.nilIface])∧(∀ j,r.F j→w.heap.size≤j)∧RmR w' (fun j=>r.F j∨G j) r (RM.new rs us))
theorem Qgo {G:Nat→Prop}{s:U.Bs}{rs:List Int}{rest:U.Bs}{us:List Int}{vu:Value}{n:Nat}{w:World}(hG:∀ j,G j→j<w.heap.size)(hsp:U.Sp s rs rest)(hs:s.length≤1000000)(hd:Zn G w)(hus:Sl w 1 vu n (us.map fun u=>.int .i64 u)) :
  Calls prog 47 #[.string ⟨s.toArray⟩,vu] w (Qpj G rs rest us w):=by
 have hn:us.length=n:=by have:=hus.len;rw[Wbi] at this;omega
 have HSN:=Hm (Qtb hsp hs w);have HG0:=Hm hG;clear hG;have HALL:=Hm hsp.all;have HSPE:=Hm hsp.eq;have HD:=Hm hd;have HUS:=Hm hus;have HNL:=Hm hn;obtain⟨A,cu,rfl,-⟩:=hus
 by_cases hr:rest=[]
 ·by_cases hbl:2000<bl rs
  ·have HR:=Hm (Wao hr hbl);clear hsp hd hn hr hbl hs;go_enter func47,ntmps47
   go_wp2_with (go_at_call 84;refine HSN.o.mono ?_;rintro e w1 ⟨hb1,-,h1,-⟩;obtain rfl:=h1 HR.o.1 HR.o.2;unfold errno;have HB1:=Hm hb1;clear hb1 h1)
   go_ret2
   exact⟨HB1.o,fun e=>absurd HR.o.1 e,fun _ _=>rfl,fun _ h=>absurd HR.o.2 (by omega),fun _ h=>absurd HR.o.2 (by omega),fun _ h=>absurd HR.o.2 (by omega)⟩
  ·have hbl':bl rs≤2000:=by omega
   have HR:=Hm (Wao hr hbl')
   by_cases h6:6<n
   ·have H6:=Hm h6;have hi6:(6:Int)<(n:Int):=by omega
    clear hsp hd hn hr hbl hs hbl' h6;go_enter func47,ntmps47
    go_wp2_with (go_at_call 84;refine HSN.o.mono ?_;rintro e w1 ⟨hb1,-,-,h1⟩;obtain⟨s1,rfl,hs1,hs2,hs3⟩:=h1 HR.o.1 HR.o.2;have HB1:=Hm hb1;clear hb1 h1 hs1 hs2 hs3)
    go_ret2
    exact⟨HB1.o,fun e=>absurd HR.o.1 e,fun _ h=>absurd HR.o.2 (by omega),fun _ _ _=>rfl,fun _ _ h=>absurd H6.o (by rw[HNL.o] at h;omega),fun _ _ h=>absurd H6.o (by rw[HNL.o] at h;omega)⟩
   ·have hi6:¬ (6:Int)<(n:Int):=by omega
    have hn6:n≤6:=by omega
    obtain rfl:s=U.encs rs:=by have:=hsp.eq;rw[hr] at this;simpa using this
    clear hsp hd hn hr hbl hs hbl' h6;go_enter func47,ntmps47
    go_wp2_with (go_at_call 84;refine HSN.o.mono ?_;rintro e w1 ⟨hb1,-,-,h1⟩;obtain⟨s1,rfl,hs1,hs2,hs3⟩:=h1 HR.o.1 HR.o.2;have HB1:=Hm hb1;have HS1:=Hm (Wao hs1 (Wao hs2 (hs3 (fun j=>s1.F j∨G j) (fun _ e=>.inl e) (fun j e=>e.imp_right (HG0.o j)))));clear hb1 h1 hs1 hs2 hs3)
    have HST:=Hm (RNI.start (us:=us) HG0.o HB1.o HS1.o.1 HS1.o.2.2);have hne:us.length=n:=HNL.o
    go_loopw [30] (fun i wr=>∃ (k:Nat) (vc:Value) (cs:List CP),k≤n∧i=.int .i64 k∧cs.length=k∧RNI G w wr w1.heap.size s1 vc cs us rs∧(∀ j,j<k→∀ u,us[j]?=some u→1≤u∧u≤3)) (fun i _=>n-(intOf i).toNat)
    case atStart=>exact⟨0,_,_,by omega,rfl,rfl,HST.o,fun j hj=>by omega⟩
    case round =>
     obtain⟨k,vc,cs,hk,rfl,hcl,hI,hall⟩:=hrel;have HI:=Hm (Wao hcl hI);have HAL:=Hm hall;have hkb:k≤6:=by omega
     obtain⟨z0,z1,z2,z3⟩:=Qk hI.blk;obtain⟨Av,cv,hvc⟩:=Qm hI.own;rw[hvc,hcl] at z1;have fz:=hI.blk.frozen;have lt:=hI.blk.lt;have HVC:=Hm hvc;clear hcl hI hall HST hvc hne
     by_cases hkn:k<n
     ·obtain⟨u,hu⟩:∃ u,us[k]?=some u:=⟨_,Waj (by rw[HNL.o];exact hkn)⟩;obtain⟨b,o,cc,hv,hbb,c0⟩:=(HUS.o.below HI.o.2.bel).one_at hkn (u:=.int .i64 u) (by rw[Wav,hu];rfl)
      cases hv
      have HCN:=Hm (Qow HALL.o HR.o.2 (k:Int) u wr);have HU:=Hm hu;clear hu
      by_cases hg:1≤u∧u≤3
      ·have HG:=Hm hg;clear hg
       go_wp2_with (first
        | (go_at_call 85;refine HCN.o.mono ?_;rintro e w2 ⟨hb2,-,h2⟩;obtain⟨c,rfl,hc1,hc2⟩:=h2 HG.o;have HB2:=Hm hb2;have HC2:=Hm (Wao hc1 hc2);obtain⟨y0,y1,y2,y3⟩:=Qk (HI.o.2.blk.below hb2 lt);have yf:=(HI.o.2.blk.below hb2 lt).frozen;have yl:=(HI.o.2.blk.below hb2 lt).lt;rw[HVC.o,HI.o.1] at y1;have how2:=Q9 HI.o.2.own (Only.of_below (S:=fun _=>False) hb2) (fun _ _ e=>e);rw[HVC.o,HI.o.1] at how2;have HOW2:=Hm how2;clear hb2 h2 hc1 hc2 how2)
        | (at_builtin;refine QE Qph #[.pointer (some ⟨c.a,0,none⟩)] HOW2.o rfl rfl rfl rfl (by simp) rfl (Qpi c) (by unfold maxLen;omega) (by omega) (by have:=HI.o.2.bel.size;have:=HB2.o.size;omega) ?_;intro v3 w3 hown3 hbel3 hgr3 hnew3;have HO3:=Hm hown3;obtain⟨A3,k3,rfl⟩:=Qm hown3;have hbk3:=(HI.o.2.blk.below HB2.o lt).only (Only.of_grown hgr3) (fun e=>HI.o.2.g_ty (by rw[HVC.o,HI.o.1];exact e.symm));have HGR3:=Hm hgr3;have HNW3:=Hm hnew3;obtain⟨x0,x1,x2,x3⟩:=Qk hbk3;have xf:=hbk3.frozen;have xl:=hbk3.lt;rw[HVC.o,HI.o.1] at x1;clear hown3 hbel3 hgr3 hnew3 hbk3))
       refine⟨⟨k+1,.slice A3 (k+1) k3,cs++[c],by omega,by go_num,by simp[HI.o.1],?_,?_⟩,by simp only[intOf];omega⟩
       ·have hvq:vc=.slice Av k cv:=by rw[HVC.o,HI.o.1]
        have g1:=HGR3.o;have g2:=HNW3.o;rw[← hvq] at g1 g2;have hk:=HI.o.1;subst hk;exact HI.o.2.more HU.o HB2.o HC2.o.1 HC2.o.2 (Wac _ _) HO3.o g1 g2
       ·intro j hj u' hu'
        by_cases hjk:j<k
        ·exact HAL.o j hjk u' hu'
        ·obtain rfl:j=k:=by omega
         obtain rfl:=getElem?_uniq HU.o hu';exact HG.o
      ·have HG:=Hm hg;clear hg;go_wp2_with (go_at_call 85;refine HCN.o.mono ?_;rintro e w2 ⟨hb2,h2,-⟩;obtain rfl:=h2 HG.o;unfold errno;have HB2:=Hm hb2;clear hb2 h2)
       go_ret2;refine⟨Qa HI.o.2.bel HB2.o,fun e=>absurd HR.o.1 e,fun _ h=>absurd HR.o.2 (by omega),fun _ _ h=>absurd h (by rw[HNL.o];omega),fun _ _ _ _=>rfl,fun _ _ _ h=>absurd (h u (List.mem_of_getElem? HU.o)) HG.o⟩
     ·obtain rfl:k=n:=by omega
      clear z1 z2 z3;go_wp2_with fail;go_ret2;obtain⟨r,hr1,hr2,hr3⟩:=HI.o.2.done (by rw[HI.o.1,HNL.o]) HD.o;refine⟨HI.o.2.bel,fun e=>absurd HR.o.1 e,fun _ h=>absurd HR.o.2 (by omega),fun _ _ h=>absurd h (by rw[HNL.o];omega),fun _ _ _ ⟨u,hu,hg⟩=>?_,fun _ _ _ _=>⟨r,by rw[hr1];rfl,hr2,hr3⟩⟩;obtain⟨j,hj⟩:=List.mem_iff_getElem?.1 hu;exact absurd (HAL.o j (by have:=(Wai.1 hj).1;rw[HNL.o] at this;exact this) u hj) hg
 ·have HR:=Hm hr;clear hsp hd hn hr hs;go_enter func47,ntmps47
  go_wp2_with (go_at_call 84;refine HSN.o.mono ?_;rintro e w1 ⟨hb1,h1,-⟩;obtain⟨g,rfl,hg⟩:=h1 HR.o;unfold atV;have HB1:=Hm hb1;have HG:=Hm hg;clear hb1 h1 hg)
  go_ret2
  exact⟨HB1.o,fun _=>⟨g,rfl,HG.o⟩,fun e=>absurd e HR.o,fun e=>absurd e HR.o,fun e=>absurd e HR.o,fun e=>absurd e HR.o⟩
end
end Go.Proofs.YtckkgdmkfbkaoaaGreatDoor
