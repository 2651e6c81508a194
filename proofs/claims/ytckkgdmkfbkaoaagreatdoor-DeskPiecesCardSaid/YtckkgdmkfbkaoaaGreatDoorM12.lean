/- Texts of the proof. -/
import Derived.Test.YtckkgdmkfbkaoaaGreatDoorM11
namespace Go.Proofs.YtckkgdmkfbkaoaaGreatDoor
open Go.Proofs.Tryz
set_option maxRecDepth 100000
set_option maxHeartbeats 32000000
set_option linter.all false
open Go.RowKit
theorem Qgp {t:RT}{w:World}(h:AtT w t):Calls prog 304 #[t.ptr] w fun e w'=>e=.returned (.int .i64 t.high)∧Below w.heap.size w w':=by
 cases t with
 | nil =>
  rw[RT.ptr_nil];go_enter func304,ntmps304
  go_wp2_with fail;go_ret
  exact⟨rfl,Wac _ _⟩
 | node g rs l r =>
  have hc:=Qv h.1;have hl:=h.1.lt;have h11:=hc.2.2.2.2.2.2.2.2.2.2.2;rw[RT.ptr_node];simp only[RT.high_node];generalize (1+max l.high r.high)=m at *;clear hc h;go_enter func304,ntmps304
  go_wp2_with fail;go_ret
  exact⟨rfl,Wac _ _⟩
theorem X8 {t:RT}{w:World}(h:AtT w t):Calls prog 261 #[t.ptr] w fun e w'=>e=.returned (cnt t.runes).v∧Below w.heap.size w w':=by
 cases t with
 | nil =>
  rw[RT.ptr_nil];go_enter func261,ntmps261
  go_wp2_with fail;refine Waz (v:=(cnt []).v) (by simp[results,results261,go_sem,cnt,Cn.zero]) rfl ?_
  exact⟨rfl,(by repeat (first | exact Wac _ _ | exact Qe (by assumption) | apply Qe | apply Qo | apply Qb | assumption))⟩
 | node g rs l r =>
  obtain⟨-,-,-,-,-,h5,h6,h7,h8,-⟩:=Qv h.1;have hl:=h.1.lt;rw[RT.ptr_node];simp only[RT.runes_node];generalize cnt (l.runes++rs++r.runes)=c at *;clear h;go_enter func261,ntmps261
  go_wp2_with fail;refine Waz (v:=c.v) (by simp[results,results261,go_sem]) rfl ?_
  exact⟨rfl,(by repeat (first | exact Wac _ _ | exact Qe (by assumption) | apply Qe | apply Qo | apply Qb | assumption))⟩
structure Sm (rs:List Int)(n:Nat):Prop where
 len:rs.length≤1099511627776
 many:n≤1099511627776
def FS (w:World)(g:Nat)(rs:List Int)(lp rp:Value)(p:Cn→Prop)(w':World):Prop:=Only (fun k=>k=g) w w'∧∃ c m,p c∧Blk w' g 393 (ZK rs c lp rp m)
def cv (w:World)(g i:Nat):Value:=(w.cell? ⟨g,i,none⟩).getD undef
theorem X9 {w:World}{g i:Nat}{v:Value}(h:w.cell? ⟨g,i,none⟩=some v):w.cell? ⟨g,i,none⟩=some (cv w g i):=by unfold cv;rw[h];rfl
abbrev FSx (w:World)(g:Nat)(rs:List Int)(lp rp:Value)(p:Cn→Prop)(w':World):Prop:=FS w g rs lp rp p w'∧w'.cell? ⟨g,1,none⟩=some (.int .i64 (cnt rs).b)∧w'.cell? ⟨g,2,none⟩=some (.int .i64 (cnt rs).h) ∧
 w'.cell? ⟨g,3,none⟩=some (.int .i64 (cnt rs).r)∧w'.cell? ⟨g,4,none⟩=some (.int .i64 (cnt rs).l)∧w'.cell? ⟨g,9,none⟩=some lp∧w'.cell? ⟨g,10,none⟩=some rp∧g<w'.heap.size ∧
 w'.cell? ⟨g,5,none⟩=some (cv w' g 5)∧w'.cell? ⟨g,6,none⟩=some (cv w' g 6)∧w'.cell? ⟨g,7,none⟩=some (cv w' g 7)∧w'.cell? ⟨g,8,none⟩=some (cv w' g 8)∧w'.cell? ⟨g,11,none⟩=some (cv w' g 11) ∧
 ∀ i,w'.frozen? ⟨g,i,none⟩=false
section
variable {w w1 w2:World}{g:Nat}{rs:List Int}{lp rp:Value}{p:Cn→Prop}
theorem FS.x (h:FS w g rs lp rp p w1):FSx w g rs lp rp p w1:=by
 obtain⟨ho,c,m,hp,hb⟩:=h;obtain⟨-,h1,h2,h3,h4,h5,h6,h7,h8,h9,h10,h11⟩:=Qv hb
 exact⟨⟨ho,c,m,hp,hb⟩,h1,h2,h3,h4,h9,h10,hb.lt,X9 h5,X9 h6,X9 h7,X9 h8,X9 h11,hb.frozen⟩
theorem FSx.drew (h:FSx w g rs lp rp p w1):FSx w g rs lp rp p w1.drew:=FS.x ⟨h.1.1.drew,h.1.2⟩
theorem FSx.call (h:FSx w g rs lp rp p w1)(hb:Below w1.heap.size w1 w2):FSx w g rs lp rp p w2:=by
 obtain⟨⟨ho,c,m,hp,hk⟩,-⟩:=h;exact FS.x ⟨ho.then_below hb,c,m,hp,hk.below hb hk.lt⟩
theorem FSx.all (h:FSx w g rs lp rp p w1){q:Cn→Prop}{x:Cn}(hq:q x):FSx w g rs lp rp q ((((w1.setCell ⟨g,5,none⟩ (.int .i64 x.b)).setCell ⟨g,6,none⟩ (.int .i64 x.h)).setCell ⟨g,7,none⟩ (.int .i64 x.r)).setCell ⟨g,8,none⟩ (.int .i64 x.l)):=by
 obtain⟨⟨ho,c,m,hp,hk⟩,-⟩:=h;exact FS.x ⟨(((ho.setCell (p:=⟨g,5,none⟩) (.inl rfl) _).setCell (p:=⟨g,6,none⟩) (.inl rfl) _).setCell (p:=⟨g,7,none⟩) (.inl rfl) _).setCell (p:=⟨g,8,none⟩) (.inl rfl) _,x,m,hq,(((hk.set_ 5 _).set_ 6 _).set_ 7 _).set_ 8 _⟩
theorem FSx.high (h:FSx w g rs lp rp p w1)(x:Int):FSx w g rs lp rp p (w1.setCell ⟨g,11,none⟩ (.int .i64 x))∧∃ c,p c∧Blk (w1.setCell ⟨g,11,none⟩ (.int .i64 x)) g 393 (ZK rs c lp rp x):=by
 obtain⟨⟨ho,c,m,hp,hk⟩,-⟩:=h
 have:=hk.set_ 11 (.int .i64 x)
 exact⟨FS.x ⟨ho.setCell (p:=⟨g,11,none⟩) (.inl rfl) _,c,x,hp,this⟩,c,hp,this⟩
theorem FSx.tree {t:RT}(h:FSx w g rs lp rp p w1)(ht:AtT w t)(hg:g ∉ t.blocks):AtT w1 t:=ht.only h.1.1 (fun _ hb e=>hg (e ▸ hb))
end
theorem XO {g:Nat}{rs:List Int}{l r:RT}{w:World}(h:YX w g rs l r)(hgl:g ∉ l.blocks)(hgr:g ∉ r.blocks)(hb:Sm (l.runes++rs++r.runes) (l.nodes.length+r.nodes.length)) :
  Calls prog 283 #[.pointer (some ⟨g,0,none⟩)] w fun e w'=>e=.returned (.pointer (some ⟨g,0,none⟩))∧AtT w' (.node g rs l r)∧Only (fun k=>k=g) w w':=by
 obtain⟨⟨c,m,hblk⟩,hl,hr⟩:=h;have HL:=Hm hl;have HR:=Hm hr;have HGL:=Hm hgl;have HGR:=Hm hgr;have HS0:Hd (FSx w g rs l.ptr r.ptr (fun _=>True) w):=⟨FS.x ⟨Only.refl _ _,c,m,trivial,hblk⟩⟩;have hlen:=hb.len;simp only[Wad] at hlen;have HL1:Hd ((cnt l.runes).In 2305843009213693952):=⟨Zj (by omega)⟩;have HL2:Hd ((cnt rs).In 2305843009213693952):=⟨Zj (by omega)⟩;have HL3:Hd ((cnt r.runes).In 2305843009213693952):=⟨Zj (by omega)⟩;have HL4:Hd (((cnt l.runes).add (cnt rs)).In 2305843009213693952):=⟨by rw[← Zo];exact Zj (by simp;omega)⟩;have HCA:Hd (((cnt l.runes).add (cnt rs)).add (cnt r.runes)=cnt (l.runes++rs++r.runes)):=⟨by rw[Zo,Zo]⟩;have hh1:=l.high_le;have hh2:=r.high_le;have hm:=hb.many;clear hl hr hblk hgl hgr hb hlen;obtain⟨s0,s1,s2,s3,s4,s9,s10,slt,s5,s6,s7,s8,s11,sf⟩:=HS0.o;clear s0;go_enter func283,ntmps283
 go_wp2_with fail;go_region_held3 (fun w'=>FS w g rs l.ptr r.ptr (fun _=>True) w'∧w'.cell? ⟨g,1,none⟩=some (.int .i64 (cnt rs).b)∧w'.cell? ⟨g,2,none⟩=some (.int .i64 (cnt rs).h) ∧
 w'.cell? ⟨g,3,none⟩=some (.int .i64 (cnt rs).r)∧w'.cell? ⟨g,4,none⟩=some (.int .i64 (cnt rs).l)∧w'.cell? ⟨g,9,none⟩=some l.ptr∧w'.cell? ⟨g,10,none⟩=some r.ptr∧g<w'.heap.size ∧
 w'.cell? ⟨g,5,none⟩=some (cv w' g 5)∧w'.cell? ⟨g,6,none⟩=some (cv w' g 6)∧w'.cell? ⟨g,7,none⟩=some (cv w' g 7)∧w'.cell? ⟨g,8,none⟩=some (cv w' g 8)∧w'.cell? ⟨g,11,none⟩=some (cv w' g 11) ∧
 ∀ i,w'.frozen? ⟨g,i,none⟩=false)
  (first | exact HS0.o.drew | exact FSx.call (by assumption) (by assumption) | exact FSx.all (by assumption) trivial | assumption)
  (first
   | (go_at_call_of 261 (RT.ptr l);refine (X8 (t:=l) ?_).mono ?_;exact FSx.tree (by assumption) HL.o HGL.o;rintro e w' ⟨rfl,hb'⟩)
   | (go_at_call_of 261 (RT.ptr r);refine (X8 (t:=r) ?_).mono ?_;exact FSx.tree (by assumption) HR.o HGR.o;rintro e w' ⟨rfl,hb'⟩)
   | (go_at_call_of 182 (cnt r.runes);refine (Zm ((cnt l.runes).add (cnt rs)) (cnt r.runes) _ HL4.o HL3.o).mono ?_;rintro e w' ⟨rfl,hb'⟩)
   | (go_at_call_of 182 (cnt rs);refine (Zm (cnt l.runes) (cnt rs) _ HL1.o HL2.o).mono ?_;rintro e w' ⟨rfl,hb'⟩))
 have HX:=Hm (FSx.all (q:=fun c=>c=cnt (l.runes++rs++r.runes)) (((HS0.o.drew.call (by assumption)).call (by assumption)).call (by assumption) |>.call hb') HCA.o);generalize ((((w'.setCell ⟨g,5,none⟩ (.int .i64 (((cnt l.runes).add (cnt rs)).add (cnt r.runes)).b)).setCell ⟨g,6,none⟩ (.int .i64 (((cnt l.runes).add (cnt rs)).add (cnt r.runes)).h)).setCell ⟨g,7,none⟩ (.int .i64 (((cnt l.runes).add (cnt rs)).add (cnt r.runes)).r)).setCell ⟨g,8,none⟩ (.int .i64 (((cnt l.runes).add (cnt rs)).add (cnt r.runes)).l))=wp at HX ⊢;clear s1 s2 s3 s4 s9 s10 slt s5 s6 s7 s8 s11 sf hb';obtain⟨s0,s1,s2,s3,s4,s9,s10,slt,s5,s6,s7,s8,s11,sf⟩:=HX.o;clear s0;go_wp2_with fail
 go_region_held3 (fun w'=>FS w g rs l.ptr r.ptr (fun c=>c=cnt (l.runes++rs++r.runes)) w'∧w'.cell? ⟨g,1,none⟩=some (.int .i64 (cnt rs).b)∧w'.cell? ⟨g,2,none⟩=some (.int .i64 (cnt rs).h)∧w'.cell? ⟨g,3,none⟩=some (.int .i64 (cnt rs).r)∧w'.cell? ⟨g,4,none⟩=some (.int .i64 (cnt rs).l)∧w'.cell? ⟨g,9,none⟩=some l.ptr∧w'.cell? ⟨g,10,none⟩=some r.ptr∧g<w'.heap.size∧w'.cell? ⟨g,5,none⟩=some (cv w' g 5)∧w'.cell? ⟨g,6,none⟩=some (cv w' g 6)∧w'.cell? ⟨g,7,none⟩=some (cv w' g 7)∧w'.cell? ⟨g,8,none⟩=some (cv w' g 8)∧w'.cell? ⟨g,11,none⟩=some (cv w' g 11)∧∀ i,w'.frozen? ⟨g,i,none⟩=false)
  (first | exact HX.o.drew | exact FSx.call (by assumption) (by assumption) | exact (FSx.high (by assumption) _).1 | assumption)
  (first
   | (go_at_call_of 304 (RT.ptr l);refine (Qgp (t:=l) ?_).mono ?_;exact FSx.tree (by assumption) HL.o HGL.o;rintro e w' ⟨rfl,hb'⟩)
   | (go_at_call_of 304 (RT.ptr r);refine (Qgp (t:=r) ?_).mono ?_;exact FSx.tree (by assumption) HR.o HGR.o;rintro e w' ⟨rfl,hb'⟩))
 have HY:=Hm (FSx.high ((HX.o.drew.call (by assumption)).call hb') (IntKind.i64.wrap (1+if l.high<r.high then (r.high:Int) else (l.high:Int))))
 have hmx:IntKind.i64.wrap (1+if l.high<r.high then (r.high:Int) else (l.high:Int))=((1+max l.high r.high:Nat):Int):=by
  rw[Waw]<;>split<;>omega
 have hmq:max (l.high:Int) (r.high:Int)=if l.high<r.high then (r.high:Int) else (l.high:Int):=by
  split<;>omega
 try rw[hmq]
 clear hmq
 generalize (w'.setCell ⟨g,11,none⟩ (.int .i64 (IntKind.i64.wrap (1+if l.high<r.high then (r.high:Int) else (l.high:Int)))))=wq at HY ⊢;clear s1 s2 s3 s4 s9 s10 slt s5 s6 s7 s8 s11 sf hb';have HMX:=Hm hmx;clear hmx;generalize (if l.high<r.high then (r.high:Int) else (l.high:Int))=mx at *;go_wp2_with fail;go_ret;obtain⟨⟨⟨ho,-⟩,-⟩,c',rfl,hk⟩:=HY.o;rw[HMX.o] at hk
 exact⟨rfl,⟨hk,HL.o.only ho (fun b hb e=>HGL.o (e ▸ hb)),HR.o.only ho (fun b hb e=>HGR.o (e ▸ hb))⟩,ho⟩
end Go.Proofs.YtckkgdmkfbkaoaaGreatDoor
