/- Texts of the proof. -/
import Derived.Test.YtckkgdmkfbkaoaaGreatDoorM40
import Derived.Lib.SliceRun
import Derived.ChangeArms
import Derived.Deep.CutBlock
import Derived.Deep.CutRange
import Derived.Deep.Slices
import Derived.Lib.ConvBytes
import Derived.Lib.QuietBelow
import Derived.Lib.SlicesDelete
import Derived.Test.YtckkgdmkfbkaoaaGreatDoorM16
import Derived.Test.YtckkgdmkfbkaoaaGreatDoorM22
namespace Go.Proofs.YtckkgdmkfbkaoaaGreatDoor
open Go.Proofs.Tryz
set_option maxRecDepth 100000
set_option maxHeartbeats 32000000
set_option linter.all false
section
open Go.RowKit
def ecv (x:EN × Value):List Value:=[.int .i64 x.1.who,.int .i64 x.1.id,x.2]
def ens (L:List (EN × Value)):List Value:=L.flatMap ecv
theorem Qsh (a b:List (EN × Value)):ens (a++b)=ens a++ens b:=by unfold ens;rw[List.flatMap_append]
theorem Qsi (x:EN × Value):ens [x]=ecv x:=by simp[ens]
theorem Qdd {L:List (EN × Value)}{k:Nat}(hk:k<L.length):(ens L)[k*3]?=some (.int .i64 L[k].1.who)∧(ens L)[k*3+1]?=some (.int .i64 L[k].1.id)∧(ens L)[k*3+2]?=some L[k].2:=by
 induction L generalizing k with
 | nil=>simp at hk
 | cons x L ih =>
  have e:ens (x :: L)=ecv x++ens L:=by simp[ens]
  rw[e]
  cases k with
  | zero=>simp[ecv]
  | succ k =>
   obtain⟨h1,h2,h3⟩:=ih (k:=k) (by simpa using hk);have hl:(ecv x).length=3:=rfl;simp only[List.getElem_cons_succ];refine⟨?_,?_,?_⟩
   ·rw[Way (by omega),hl,← h1];congr 1;omega
   ·rw[Way (by omega),hl,← h2];congr 1;omega
   ·rw[Way (by omega),hl,← h3];congr 1;omega
theorem Qhk (L:List (EN × Value))(k:Nat):ens (L.drop k)=(ens L).drop (k*3):=by
 induction L generalizing k with
 | nil=>simp[ens]
 | cons x L ih =>
  cases k with
  | zero=>simp
  | succ k =>
   have e:ens (x :: L)=Value.int .i64 x.1.who :: Value.int .i64 x.1.id :: x.2 :: ens L:=by simp[ens,ecv]
   rw[List.drop_succ_cons,ih,e,show (k+1)*3=k*3+1+1+1 from by omega];simp only[List.drop_succ_cons]
def OpO (F:Nat→Prop)(w:World)(v:Value)(l:List PT):Prop:=Sl w 3 v l.length (opv l)∧∀ ad n c,v=.slice (some ad) n c→0<n→¬ F ad.block
def EnO (F:Nat→Prop)(w:World)(L:List (EN × Value)):Prop:=∀ x∈L,OpO F w x.2 x.1.op
section
variable {F F':Nat→Prop}{w w':World}{v:Value}{l:List PT}
def Grow (F F':Nat→Prop)(n:Nat):Prop:=∀ k,F' k→F k∨n≤k
theorem Grow.refl (F:Nat→Prop)(n:Nat):Grow F F n:=fun _ h=>.inl h
theorem Grow.trans {F F' F'':Nat→Prop}{n m:Nat}(h:Grow F F' n)(k:Grow F' F'' m)(hm:n≤m):Grow F F'' n:=fun i hi=>(k i hi).elim (h i) (fun e=>.inr (Wbf hm e))
theorem Grow.mono {F F':Nat→Prop}{n m:Nat}(h:Grow F F' m)(hm:n≤m):Grow F F' n:=fun i hi=>(h i hi).imp_right (Wbf hm)
theorem OpO.sl (h:OpO F w v l):Sl w 3 v l.length (opv l):=h.1
theorem OpO.only (h:OpO F w v l)(ho:Only F w w')(hF:Grow F F' w.heap.size):OpO F' w' v l:=by
 refine⟨h.1.only ho (fun A c e hn=>h.2 A _ c e hn),fun ad n c e hn hF'=>?_⟩;rcases hF _ hF' with h1 | h1
 ·exact h.2 ad n c e hn h1
 ·obtain⟨A,c',e',-,-,-,-,h5⟩:=h.1;rw[e'] at e
  cases e
  obtain⟨ad',e2,hb,-⟩:=h5 hn
  cases e2
  omega
theorem OpO.below (h:OpO F w v l)(hb:Below w.heap.size w w')(hF:Grow F F' w.heap.size):OpO F' w' v l:=h.only (Only.of_below hb) hF
theorem OpO.sub (h:OpO F w v l)(hF:∀ k,F' k→F k):OpO F' w v l:=⟨h.1,fun ad n c e hn hk=>h.2 ad n c e hn (hF _ hk)⟩
theorem OpO.frs {B:Nat}(h:Sl w 3 v l.length (opv l))(hf:Frs B v)(hF:∀ k,F k→k<B):OpO F w v l:=⟨h,fun ad n c e _ hk=>by have:=hf ad n c e;have:=hF _ hk;omega⟩
theorem OpO.nil (F:Nat→Prop)(w:World):OpO F w (.slice none 0 0) []:=⟨Sl.nil w 3,fun ad n c e=>by cases e⟩
theorem EnO.only {L:List (EN × Value)}(h:EnO F w L)(ho:Only F w w')(hF:Grow F F' w.heap.size):EnO F' w' L:=fun x hx=>(h x hx).only ho hF
theorem Qsj (l:List PT):∀ u∈opv l,u.oneCell'=true:=by
 intro u hu;unfold opv at hu;obtain⟨p,-,hp⟩:=List.mem_flatMap.1 hu;simp only[PT.cells,Wbk,List.not_mem_nil,or_false] at hp;rcases hp with rfl | rfl | rfl<;>rfl
end
theorem Qhl {w:World}{t:TypeId}{size:Nat}:(w.alloc (.cells #[] t)).ownsRow w.heap.size t size (.slice (some ⟨w.heap.size,0,none⟩) 0 0) 0 [] :=
 ⟨by simp,.inr ⟨w.heap.size,0,#[],rfl,Wak _,Wbc w _,Wak _,by unfold maxLen;omega,by simp,by simp⟩⟩
theorem Qhm (w:World)(A:Option Addr)(n c:Nat):(binOp .eql 115 (.slice A n c) (.slice none 0 0)).run prog w=.ok (.bool A.isNone) w:=Lib.run_eql_slice_nil w _ _ A n c 0 0 underlying115
theorem Qde {l:List PT}{v:Value}{n:Nat}{w:World}(hsl:Sl w 3 v n (opv l))(hn:n≤1000000) :
  Calls prog 278 #[v] w fun e w'=>(∃ v',e=.returned v'∧Sl w' 3 v' n (opv l)∧Frs w.heap.size v')∧Below w.heap.size w w':=by
 have HSL:=Hm hsl;obtain⟨A,c,rfl,-,-,-,hA,h5⟩:=hsl
 cases A with
 | none =>
  obtain rfl:=hA rfl
  obtain rfl:n=0:=by
   rcases Nat.eq_zero_or_pos n with h | h
   ·exact h
   ·obtain⟨ad,e,-⟩:=h5 h;cases e
  clear hA h5;have heq:=Qhm;go_enter func278,ntmps278
  go_wp2_with fail;go_ret
  exact⟨⟨_,rfl,HSL.o,Frs.nil _⟩,Wac _ _⟩
 | some ad =>
  clear hA h5;have heq:=Qhm;go_enter func278,ntmps278
  go_wp2_with (at_builtin;refine Qg0 QK (opv l) (.slice (some ad) n c) Qhl (HSL.o.below (Qb (Wac _ _) _)) rfl rfl rfl rfl (Qsj l) (by unfold maxLen;omega) (by omega) (by simp) ?_;intro v9 w9 hown9 hbel9 hgr9 hnew9;rw[Nat.zero_add,Wbn] at hown9;have HO9:=Hm hown9;obtain⟨A9,k9,rfl⟩:=Qm hown9;have HB9:=Hm hbel9;clear hown9 hbel9 hgr9 hnew9)
  go_ret
  exact⟨⟨_,rfl,Sl.of_own HO9.o,Frs.of_own HO9.o⟩,(Qb (Wac _ _) _).trans HB9.o⟩
theorem Qay:El prog 214 300 3 40:=El.mk' underlying214 (by kernel_rfl) (by decide)
theorem Qsk {w:World}{F:Nat→Prop}{L:List (EN × Value)}(h:EnO F w L):∀ u∈ens L,u.oneCell'=true:=by
 intro u hu;unfold ens at hu;obtain⟨x,hx,hp⟩:=List.mem_flatMap.1 hu;obtain⟨A,c,e,-⟩:=(h x hx).1;simp only[ecv,Wbk,List.not_mem_nil,or_false] at hp;rcases hp with rfl | rfl | rfl
 ·rfl
 ·rfl
 ·rw[e];rfl
end
section
open Go.RowKit
structure ShV (w:World)(u:Int)(R:List Int)(t:U.Bs)(vh vr:Value):Prop where
 k1:u=1→t=U.encs R∧vh=.slice none 0 0∧vr=.slice none 0 0
 k2:u=2→t=[]∧Sl w 1 vh (U.hvs R).length (Qt (U.hvs R))∧vr=.slice none 0 0
 k3:u=3→t=[]∧vh=.slice none 0 0∧Sl w 1 vr R.length (Qs R)
theorem ShV.below {w w':World}{u:Int}{R:List Int}{t:U.Bs}{vh vr:Value}(h:ShV w u R t vh vr)(hb:Below w.heap.size w w'):ShV w' u R t vh vr :=
 ⟨h.k1,fun e=>⟨(h.k2 e).1,(h.k2 e).2.1.below hb,(h.k2 e).2.2⟩,fun e=>⟨(h.k3 e).1,(h.k3 e).2.1,(h.k3 e).2.2.below hb⟩⟩
structure ShS (w:World)(f:Nat)(u:Int)(R:List Int):Prop where
 all:U.AllR R
 u1:1≤u∧u≤3
 sz:bl R≤8000
 ex:∃ t vh vr,Blk w f 275 #[.int .i64 u,.string ⟨t.toArray⟩,vh,vr]∧ShV w u R t vh vr
theorem ShS.below {w w':World}{f:Nat}{u:Int}{R:List Int}(h:ShS w f u R)(hb:Below w.heap.size w w'):ShS w' f u R:=by
 obtain⟨t,vh,vr,hk,hv⟩:=h.ex
 exact⟨h.all,h.u1,h.sz,t,vh,vr,hk.below hb hk.lt,hv.below hb⟩
structure ShF (B:Nat)(w:World)(f:Nat)(u:Int)(R:List Int):Prop where
 all:U.AllR R
 u1:1≤u∧u≤3
 sz:bl R≤8000
 ex:∃ t vh vr,Blk w f 275 #[.int .i64 u,.string ⟨t.toArray⟩,vh,vr]∧ShV w u R t vh vr∧Frs B vh∧Frs B vr
theorem ShF.less {B B':Nat}{w:World}{f:Nat}{u:Int}{R:List Int}(h:ShF B w f u R)(hB:B'≤B):ShF B' w f u R:=by
 obtain⟨t,vh,vr,a,b,c,d⟩:=h.ex
 exact⟨h.all,h.u1,h.sz,t,vh,vr,a,b,c.mono hB,d.mono hB⟩
theorem Qk {w:World}{g:Nat}{ty:TypeId}{a b c d:Value}(h:Blk w g ty #[a,b,c,d]):w.cell? ⟨g,0,none⟩=some a∧w.cell? ⟨g,1,none⟩=some b∧w.cell? ⟨g,2,none⟩=some c∧w.cell? ⟨g,3,none⟩=some d:=by
 have z0:=h.cell 0;have z1:=h.cell 1;have z2:=h.cell 2;have z3:=h.cell 3;simp only[Wab,Waa,Wae] at z0 z1 z2 z3
 exact⟨z0,z1,z2,z3⟩
theorem Qcn {w:World}{f:Nat}{u:Int}{R:List Int}(h:ShS w f u R):Calls prog 207 #[.pointer (some ⟨f,0,none⟩)] w fun e w'=>e=.returned (.int .i64 u)∧w'=w:=by
 obtain⟨t,vh,vr,hk,hv⟩:=h.ex;obtain⟨z0,z1,z2,z3⟩:=Qk hk;clear hk hv h;go_enter func207,ntmps207
 go_wp2_with fail;go_ret
 exact⟨rfl,rfl⟩
theorem Qac {w:World}{f:Nat}{u:Int}{R:List Int}(h:ShS w f u R):Calls prog 263 #[.pointer (some ⟨f,0,none⟩)] w fun e w'=>e=.returned (.int .i64 ((cnt R).of u))∧Below w.heap.size w w':=by
 obtain⟨t,vh,vr,hk,hv⟩:=h.ex;obtain⟨z0,z1,z2,z3⟩:=Qk hk;have hall:=h.all;have hsz:=h.sz
 have key:∃ (th tr:Nat) (Ah Ar:Option Addr) (ch cr:Nat),vh=.slice Ah th ch∧vr=.slice Ar tr cr∧(t.length:Int)+th+tr=(cnt R).of u∧t.length≤100000∧th≤100000∧tr≤100000:=by
  have h3:u=1∨u=2∨u=3:=by have:=h.u1;omega
  have hb:=QB R;have hh:=U.hvs_len_le R;have hbe:(U.encs R).length=bl R:=rfl;rcases h3 with rfl | rfl | rfl
  ·obtain⟨rfl,rfl,rfl⟩:=hv.k1 rfl
   exact⟨0,0,none,none,0,0,rfl,rfl,by rw[ZH];omega,by omega,by omega,by omega⟩
  ·obtain⟨rfl,⟨A,c,rfl,-⟩,rfl⟩:=hv.k2 rfl;have hn:(cnt R).of 2=((U.hvs R).length:Nat):=by rw[Qio hall];rfl
   exact⟨_,0,A,none,c,0,rfl,rfl,by rw[hn];simp,by simp,by omega,by omega⟩
  ·obtain⟨rfl,rfl,A,c,rfl,-⟩:=hv.k3 rfl
   exact⟨0,_,none,A,0,c,rfl,rfl,by rw[Qcr];simp,by simp,by omega,by omega⟩
 obtain⟨th,tr,Ah,Ar,ch,cr,rfl,rfl,hsum,b1,b2,b3⟩:=key;have HSUM:=Hm hsum;have hw1:IntKind.i64.wrap ((t.length:Int)+th)=(t.length:Int)+th:=by rw[Waw]<;>omega
 have hw2:IntKind.i64.wrap ((t.length:Int)+th+tr)=(t.length:Int)+th+tr:=by rw[Waw]<;>omega
 clear hk hv h hsum hall hsz;go_enter func263,ntmps263
 go_wp2_with fail;go_quiet (fail)
 go_wp2_with fail;go_ret
 exact⟨by rw[← HSUM.o];rfl,Qo nq (Wac _ _)⟩
theorem X7 {w:World}{f:Nat}{u:Int}{R:List Int}{t:U.Bs}{vh vr:Value}(hall:U.AllR R)(hu:1≤u∧u≤3)(hsz:bl R≤1000000)(hk:Blk w f 275 #[.int .i64 u,.string ⟨t.toArray⟩,vh,vr])(hv:ShV w u R t vh vr):Calls prog 205 #[.pointer (some ⟨f,0,none⟩)] w fun e w'=>e=.returned (.string ⟨(U.encs R).toArray⟩)∧Below w.heap.size w w':=by
 obtain⟨z0,z1,z2,z3⟩:=Qk hk;have HALL:=Hm hall;have hb:=QB R;have hh:=U.hvs_len_le R;have h3:u=1∨u=2∨u=3:=by omega
 rcases h3 with rfl | rfl | rfl
 ·obtain⟨rfl,rfl,rfl⟩:=hv.k1 rfl;clear hk hv;go_enter func205,ntmps205
  go_wp2_with fail;go_ret
  exact⟨rfl,Wac _ _⟩
 ·obtain⟨rfl,hs,rfl⟩:=hv.k2 rfl;have HT:=Hm (Qv5 (w:=w) (l:=U.hvs R) (pre:=R) (rest:=[]) ⟨hall,by rw[Wam],trivial⟩ (U.hvs_in hall) hs (by omega));obtain⟨A,c,rfl,-⟩:=hs;clear hk hv;go_enter func205,ntmps205
  go_wp2_with fail;refine HT.o.mono ?_;rintro e w1 ⟨hb1,hok,-⟩;obtain rfl:=hok rfl;have HB1:=Hm hb1;clear hb1 hok;go_wp2_with fail;go_ret
  exact⟨rfl,HB1.o⟩
 ·obtain⟨rfl,rfl,hs⟩:=hv.k3 rfl;have HT:=Hm (Qk6 (w:=w) (l:=R) (pre:=R) (rest:=[]) ⟨hall,by rw[Wam],fun _ _ e=>by cases e⟩ hs (by omega));obtain⟨A,c,rfl,-⟩:=hs;clear hk hv;go_enter func205,ntmps205
  go_wp2_with fail;refine HT.o.mono ?_;rintro e w1 ⟨hb1,hok,-⟩;obtain rfl:=hok rfl;have HB1:=Hm hb1;clear hb1 hok;go_wp2_with fail;go_ret
  exact⟨rfl,HB1.o⟩
theorem Qco {w:World}{f:Nat}{u:Int}{R:List Int}(h:ShS w f u R):Calls prog 205 #[.pointer (some ⟨f,0,none⟩)] w fun e w'=>e=.returned (.string ⟨(U.encs R).toArray⟩)∧Below w.heap.size w w':=by
 obtain⟨t,vh,vr,hk,hv⟩:=h.ex;exact X7 h.all h.u1 (by have:=h.sz;omega) hk hv
end
section
open Go.RowKit
theorem ShV.frs {w w':World}{S:Nat→Prop}{B:Nat}{u:Int}{R:List Int}{t:U.Bs}{vh vr:Value}(h:ShV w u R t vh vr)(hh:Frs B vh)(hr:Frs B vr)(ho:Only S w w')(hs:∀ k,S k→k<B):ShV w' u R t vh vr :=
 ⟨h.k1,fun e=>⟨(h.k2 e).1,(h.k2 e).2.1.frs hh ho hs,(h.k2 e).2.2⟩,fun e=>⟨(h.k3 e).1,(h.k3 e).2.1,(h.k3 e).2.2.frs hr ho hs⟩⟩
theorem Qcz {R:List Int}{l:List PT}{u:Int}(hu:1≤u∧u≤3)(hg:∀ p∈l,p.Good)(hw:was l=(cnt R).of u)(hk:(tnF R u 1 Cn.zero 0 l).2=0):comes (tnF R u 1 Cn.zero 0 l).1≤bl R+Qd l:=by
 have z:((cnt ([]:List Int)).of u)=0:=by rw[QQ,ZC]
 obtain⟨⟨X,hX⟩,b,-⟩:=Qgk (R:=R) (P:=[]) (Q:=R) hu rfl hg hw (by rw[z,QQ];exact hk);rw[z,QQ] at hX b;have h1:=hX.bounds.2;have h2:=hX.sizes.2;omega
def Js (f:Nat)(u:Int)(R:List Int)(l:List PT)(w:World)(e:Ending)(w':World):Prop :=
 Only (fun k=>k=f) w w'∧(chk l ((cnt R).of u)≠0→e=.returned (errno (chk l ((cnt R).of u)))∧Below w.heap.size w w') ∧
  (chk l ((cnt R).of u)=0→((tnF R u 1 Cn.zero 0 l).2=10∧e=.returned (errno 10)∧Below w.heap.size w w') ∨
   ((tnF R u 1 Cn.zero 0 l).2=0∧∃ X,OpR (tnF R u 1 Cn.zero 0 l).1 X R ∧
    ((8000<bl (rap X R)∧e=.returned (errno 12)∧Below w.heap.size w w')∨(bl (rap X R)≤8000∧e=.returned .nilIface∧ShF w.heap.size w' f u (rap X R)))))
theorem Qp8 {R:List Int}{l:List PT}{u:Int}{v2:Value}{n2 f:Nat}{w:World}(hs:ShS w f u R)(hg:Hdl w)(hs2:Sl w 3 v2 n2 (opv l))(hp:∀ p∈l,p.put.length≤35184372087808)(hc:chk l ((cnt R).of u)≠0) :
  Calls prog 210 #[.pointer (some ⟨f,0,none⟩),v2] w (Js f u R l w):=by
 have HLN:=Hm (Qac hs);have HS2:=Hm hs2;have HG:=Hm hg;have HP:=Hm hp;have HC:=Hm hc;obtain⟨A,c,rfl,-⟩:=hs2;have h0:=QJ R u;have h1:=of_le (rs:=R) (n:=bl R) (QB R) u;have h2:=hs.sz;have HM:Hd (-9223372036854775808≤(cnt R).of u∧(cnt R).of u≤9223372036854775807):=⟨by omega⟩;clear hs hg hp hc h0 h1 h2;go_enter func210,ntmps210
 go_wp2_with (first
  | (go_at_call 263;refine HLN.o.mono ?_;rintro e w1 ⟨rfl,hb1⟩;have HB1:=Hm hb1;clear hb1)
  | (go_at_call 262;refine (Zv (HG.o.below HB1.o) (HS2.o.below HB1.o) HP.o HM.o).mono ?_;rintro e w2 ⟨⟨ev,rfl,-,hev⟩,hb2⟩;rw[show Q4 (chk l ((cnt R).of u))=errno (chk l ((cnt R).of u)) from if_neg HC.o] at hev;obtain rfl:=hev;unfold errno;have HB2:=Hm (Qa HB1.o hb2);clear hb2))
 go_ret
 exact⟨Only.of_below HB2.o,fun _=>⟨rfl,HB2.o⟩,fun h=>absurd h HC.o⟩
end
section
open Go.RowKit
section
attribute [local go_sem] Cn.v_eq
def Qu3 (f:Nat)(u:Int)(rs:List Int)(rest:U.Bs)(w:World)(e:Ending)(w':World):Prop :=
 Only (fun k=>k=f) w w'∧(rest≠[]→∃ g,e=.returned (atV g)∧QU w' g 3 (bl rs))∧(rest=[]→8000<bl rs→e=.returned (errno 12)) ∧
  (rest=[]→bl rs≤8000→e=.returned .nilIface∧ShF w.heap.size w' f u rs)
theorem Qu4 {s:U.Bs}{rs:List Int}{rest:U.Bs}(hsp:U.Sp s rs rest){w:World}{f:Nat}{u:Int}(hu:1≤u∧u≤3)(hs:s.length≤1000000)(hk:Blk w f 275 #[.int .i64 u,.string ⟨#[]⟩,.slice none 0 0,.slice none 0 0]) :
  Calls prog 185 #[.pointer (some ⟨f,0,none⟩),.string ⟨s.toArray⟩] w (Qu3 f u rs rest w):=by
 have HK:=Hm hk;have HC:=Hm (Xv hsp w (by omega));have HALL:=Hm hsp.all;have hoff:U.off rs rs.length=bl rs:=U.off_full rs
 by_cases hr:rest=[]
 ·subst hr;obtain rfl:s=U.encs rs:=by have:=hsp.eq;simpa using this
  have hlen:(U.encs rs).length=bl rs:=rfl;rw[hlen] at hs;have HH:=fun w1=>Hm (Qvs hsp w1 (by show bl rs≤_;omega))
  have HRN:=fun w1=>Hm (Qvr hsp w1 (by show bl rs≤_;omega))
  have HLEN:=Hm hlen
  by_cases hbl:8000<bl rs
  ·have hi:(8000:Int)<((U.encs rs).length:Int):=by show (8000:Int)<(bl rs:Int);omega
   have HBL:=Hm hbl;clear hsp hoff hk hlen hbl hs;go_enter func185,ntmps185
   go_wp2_with (go_at_call 133;refine HC.o.mono ?_;rintro e w1 ⟨hb1,hok,-⟩;obtain rfl:=hok rfl;have HB1:=Hm hb1;clear hb1 hok)
   go_ret
   exact⟨Only.of_below (Qb HB1.o _) |>.mono (fun _ _ h=>h),fun h=>absurd rfl h,fun _ _=>rfl,fun _ h=>absurd HBL.o (by omega)⟩
  ·have hi:¬ ((8000:Int)<((U.encs rs).length:Int)):=by show ¬ ((8000:Int)<(bl rs:Int));omega
   have HBL:Hd (bl rs≤8000):=⟨by omega⟩;clear hsp hoff hk hlen hbl hs;have h3:u=1∨u=2∨u=3:=by omega
   rcases h3 with rfl | rfl | rfl
   ·go_enter func185,ntmps185
    go_wp2_with (go_at_call 133;refine HC.o.mono ?_;rintro e w1 ⟨hb1,hok,-⟩;obtain rfl:=hok rfl;have hx1:=Qb hb1 (.cells #[.int .i64 (cnt rs).b,.int .i64 (cnt rs).h,.int .i64 (cnt rs).r,.int .i64 (cnt rs).l] 125);have HB1:=Hm hx1;have hk1:=HK.o.below hx1 HK.o.lt;have HK1:=Hm hk1;obtain⟨z0,z1,z2,z3⟩:=Qk hk1;have zf:=hk1.frozen;have zl:=hk1.lt;clear hb1 hok hx1 hk1)
    go_ret;refine⟨(Only.of_below HB1.o:Only (fun k=>k=f) _ _).setCell (.inl rfl) _,fun h=>absurd rfl h,fun _ h=>absurd HBL.o (by omega),fun _ _=>⟨rfl,⟨HALL.o,by decide,HBL.o,U.encs rs,_,_,HK1.o.set_ 1 (.string ⟨(U.encs rs).toArray⟩),⟨fun _=>⟨rfl,rfl,rfl⟩,fun h=>by omega,fun h=>by omega⟩,Frs.nil _,Frs.nil _⟩⟩⟩
   ·go_enter func185,ntmps185
    go_wp2_with (first | (go_at_call 133;refine HC.o.mono ?_;rintro e w1 ⟨hb1,hok,-⟩;obtain rfl:=hok rfl;have hx1:=Qb hb1 (.cells #[.int .i64 (cnt rs).b,.int .i64 (cnt rs).h,.int .i64 (cnt rs).r,.int .i64 (cnt rs).l] 125);have HB1:=Hm hx1;have hk1:=HK.o.below hx1 HK.o.lt;have HK1:=Hm hk1;obtain⟨z0,z1,z2,z3⟩:=Qk hk1;have zf:=hk1.frozen;have zl:=hk1.lt;clear hb1 hok hx1 hk1) | (go_at_call 236;refine (HH _).out.mono ?_;rintro e w2 ⟨hb2,hok,-⟩;obtain⟨v,rfl,hsl,hfr⟩:=hok rfl;obtain⟨A,c,rfl⟩:∃ A c,v=.slice A (U.hvs rs).length c:=(by obtain⟨A,c,e,-⟩:=hsl;exact⟨A,c,e⟩);have HSL:=Hm hsl;have HFR:=Hm hfr;have HB2:=Hm (Qa HB1.o hb2);have hk2:=HK1.o.below hb2 HK1.o.lt;have HK2:=Hm hk2;clear z0 z1 z2 z3 zf zl;obtain⟨z0,z1,z2,z3⟩:=Qk hk2;have zf:=hk2.frozen;have zl:=hk2.lt;clear hb2 hok hsl hfr hk2))
    go_ret;have hO:Only (fun k=>k=f) w w2:=Only.of_below HB2.o;have hS:=HSL.o.frs (S:=fun k=>k=f) HFR.o ((Only.refl (fun k=>k=f) w2).setCell (p:=⟨f,2,none⟩) (.inl rfl) (.slice A (U.hvs rs).length c)) (fun k e=>by subst e;exact Wal HK.o.lt HB1.o.size)
    exact⟨hO.setCell (.inl rfl) _,fun h=>absurd rfl h,fun _ h=>absurd HBL.o (by omega),fun _ _=>⟨rfl,⟨HALL.o,by decide,HBL.o,[],_,_,HK2.o.set_ 2 _,⟨fun h=>by omega,fun _=>⟨rfl,hS,rfl⟩,fun h=>by omega⟩,HFR.o.mono HB1.o.size,Frs.nil _⟩⟩⟩
   ·go_enter func185,ntmps185
    go_wp2_with (first | (go_at_call 133;refine HC.o.mono ?_;rintro e w1 ⟨hb1,hok,-⟩;obtain rfl:=hok rfl;have hx1:=Qb hb1 (.cells #[.int .i64 (cnt rs).b,.int .i64 (cnt rs).h,.int .i64 (cnt rs).r,.int .i64 (cnt rs).l] 125);have HB1:=Hm hx1;have hk1:=HK.o.below hx1 HK.o.lt;have HK1:=Hm hk1;obtain⟨z0,z1,z2,z3⟩:=Qk hk1;have zf:=hk1.frozen;have zl:=hk1.lt;clear hb1 hok hx1 hk1) | (go_at_call 237;refine (HRN _).out.mono ?_;rintro e w2 ⟨hb2,hok,-⟩;obtain⟨v,rfl,hsl,hfr⟩:=hok rfl;obtain⟨A,c,rfl⟩:∃ A c,v=.slice A rs.length c:=(by obtain⟨A,c,e,-⟩:=hsl;exact⟨A,c,e⟩);have HSL:=Hm hsl;have HFR:=Hm hfr;have HB2:=Hm (Qa HB1.o hb2);have hk2:=HK1.o.below hb2 HK1.o.lt;have HK2:=Hm hk2;clear z0 z1 z2 z3 zf zl;obtain⟨z0,z1,z2,z3⟩:=Qk hk2;have zf:=hk2.frozen;have zl:=hk2.lt;clear hb2 hok hsl hfr hk2))
    go_ret;have hO:Only (fun k=>k=f) w w2:=Only.of_below HB2.o;have hS:=HSL.o.frs (S:=fun k=>k=f) HFR.o ((Only.refl (fun k=>k=f) w2).setCell (p:=⟨f,3,none⟩) (.inl rfl) (.slice A rs.length c)) (fun k e=>by subst e;exact Wal HK.o.lt HB1.o.size)
    exact⟨hO.setCell (.inl rfl) _,fun h=>absurd rfl h,fun _ h=>absurd HBL.o (by omega),fun _ _=>⟨rfl,⟨HALL.o,by decide,HBL.o,[],_,_,HK2.o.set_ 3 _,⟨fun h=>by omega,fun h=>by omega,fun _=>⟨rfl,rfl,hS⟩⟩,Frs.nil _,HFR.o.mono HB1.o.size⟩⟩⟩
 ·have HRR:=Hm hr;have HOF:=Hm hoff;clear hsp hoff hk hs hr;go_enter func185,ntmps185
  go_wp2_with (go_at_call 133;refine HC.o.mono ?_;rintro e w1 ⟨hb1,-,hok⟩;obtain⟨g,rfl,hg⟩:=hok HRR.o;have HB1:=Hm hb1;have HG:=Hm hg;clear hb1 hok hg)
  go_ret;refine⟨Only.of_below (Qb HB1.o _),fun _=>⟨g,rfl,?_⟩,fun h=>absurd h HRR.o,fun h=>absurd h HRR.o⟩;rw[← HOF.o];exact HG.o.below (Qb (Wac _ _) _)
end
end
section
open Go.RowKit
def Qms (u:Int)(rs:List Int)(rest:U.Bs)(w:World)(e:Ending)(w':World):Prop :=
 Below w.heap.size w w'∧(¬ (1≤u∧u≤3)→e=.returned (.tuple #[.pointer none,errno 1])) ∧
  (1≤u∧u≤3→rest≠[]→∃ g,e=.returned (.tuple #[.pointer none,atV g])∧QU w' g 3 (bl rs)) ∧
  (1≤u∧u≤3→rest=[]→8000<bl rs→e=.returned (.tuple #[.pointer none,errno 12])) ∧
  (1≤u∧u≤3→rest=[]→bl rs≤8000→∃ f,e=.returned (.tuple #[.pointer (some ⟨f,0,none⟩),.nilIface])∧w.heap.size≤f∧ShF (f+1) w' f u rs)
theorem Qfe {s:U.Bs}{rs:List Int}{rest:U.Bs}(hsp:U.Sp s rs rest){u:Int}(hs:s.length≤1000000)(w:World) :
  Calls prog 135 #[.int .i64 u,.string ⟨s.toArray⟩] w (Qms u rs rest w):=by
 by_cases h3:1≤u∧u≤3
 ·obtain⟨h1,h2⟩:=h3;have HT:=Hm (Qu4 hsp (w:=w.alloc (.cells #[.int .i64 u,.string ⟨#[]⟩,.slice none 0 0,.slice none 0 0] 275)) (f:=w.heap.size) ⟨h1,h2⟩ hs (Blk.new _ _ _));have hA:Below w.heap.size w (w.alloc (.cells #[.int .i64 u,.string ⟨#[]⟩,.slice none 0 0,.slice none 0 0] 275)):=Qb (Wac _ _) _;have HA:=Hm hA;have hi1:¬ (u<1):=by omega
  have hi2:¬ (3<u):=by omega
  have HB:∀ {w1:World},Only (fun k=>k=w.heap.size) (w.alloc (.cells #[.int .i64 u,.string ⟨#[]⟩,.slice none 0 0,.slice none 0 0] 275)) w1→Below w.heap.size w w1:=fun ho =>
   hA.trans (ho.below (by simp) (fun k hk e=>by omega))
  have HBB:=Hm @HB;clear hA HB hs
  by_cases hr:rest=[]
  ·by_cases hb:8000<bl rs
   ·have HR:=Hm (Wao hr hb);clear hr hb hsp;go_enter func135,ntmps135
    go_wp2_with (go_at_call 185;refine HT.o.mono ?_;rintro e w1 ⟨ho,-,h2,-⟩;obtain rfl:=h2 HR.o.1 HR.o.2;unfold errno;have HO:=Hm ho;clear ho h2)
    go_ret2
    exact⟨HBB.o HO.o,fun h=>absurd ⟨h1,h2⟩ h,fun _ h=>absurd HR.o.1 h,fun _ _ _=>rfl,fun _ _ h=>absurd HR.o.2 (by omega)⟩
   ·have HR:Hd (rest=[]∧bl rs≤8000):=⟨hr,by omega⟩;clear hr hb hsp;go_enter func135,ntmps135
    go_wp2_with (go_at_call 185;refine HT.o.mono ?_;rintro e w1 ⟨ho,-,-,h2⟩;obtain⟨rfl,hsh⟩:=h2 HR.o.1 HR.o.2;have HO:=Hm ho;have HSH:=Hm hsh;clear ho h2 hsh)
    go_ret2
    exact⟨HBB.o HO.o,fun h=>absurd ⟨h1,h2⟩ h,fun _ h=>absurd HR.o.1 h,fun _ _ h=>absurd HR.o.2 (by omega),fun _ _ _=>⟨_,rfl,Wak _,HSH.o.less (by simp)⟩⟩
  ·have HR:=Hm hr;clear hr hsp;go_enter func135,ntmps135
   go_wp2_with (go_at_call 185;refine HT.o.mono ?_;rintro e w1 ⟨ho,h2,-⟩;obtain⟨g,rfl,hg⟩:=h2 HR.o;have HO:=Hm ho;have HG:=Hm hg;clear ho h2 hg)
   go_ret2
   exact⟨HBB.o HO.o,fun h=>absurd ⟨h1,h2⟩ h,fun _ _=>⟨g,rfl,HG.o⟩,fun _ h=>absurd h HR.o,fun _ h=>absurd h HR.o⟩
 ·have H3:=Hm h3;have hc:u<1∨(¬ u<1∧3<u):=by omega
  clear hsp hs h3;rcases hc with h | ⟨h,h'⟩
  all_goals
   go_enter func135,ntmps135
   go_wp2_with fail
   first | go_quiet (fail) | skip
   go_wp2_with fail;go_ret2
   exact⟨by first | exact Wac _ _ | exact Qo _ (Wac _ _),fun _=>rfl,fun h=>absurd h H3.o,fun h=>absurd h H3.o,fun h=>absurd h H3.o⟩
end
section
open Go.RowKit Go.Sort
structure SP where
 a:Nat
 p:Nat
 t:RT
 vl:Value
 m:Nat
 k:Nat
 L:List (EN × Value)
def SP.F (s:SP)(j:Nat):Prop:=j=s.a∨s.vl.ownBlock=some j∨j=s.m
structure SrvR (w:World)(F:Nat→Prop)(s:SP)(S:SV):Prop where
 ok:SVok S
 blk:Blk w s.a 216 #[.pointer (some ⟨s.p,0,none⟩),s.vl,.map (some s.m)]
 rope:AtR w s.p s.t
 good:Good s.t
 doc:S.doc=U.encs s.t.runes
 rp:¬ F s.p∧∀ b∈s.t.blocks,¬ F b
 own:w.ownsRow 0 300 3 s.vl s.L.length (ens s.L)
 log:s.L.map Prod.fst=S.log
 ops:EnO F w s.L
 map:Mp w s.m s.k S.last
 tk:s.k≤S.tk
 sub:∀ j,s.F j→F j
 flt:∀ j,F j→j<w.heap.size
section
variable {w w':World}{F F' G:Nat→Prop}{s:SP}{S:SV}
theorem AtR.only {S:Nat→Prop}{p:Nat}{t:RT}(h:AtR w p t)(ho:Only S w w')(hp:¬ S p)(hs:∀ b∈t.blocks,¬ S b):AtR w' p t:=⟨h.blk.only ho hp,h.tree.only ho hs,h.out⟩
theorem SrvR.len (h:SrvR w F s S):s.L.length=S.log.length:=by rw[← h.log,Wbi]
theorem SrvR.only (h:SrvR w F s S)(ho:Only G w w')(hG:∀ j,G j→F j)(hs:∀ j,s.F j→¬ G j)(hF:Grow F F' w.heap.size)(hs':∀ j,s.F j→F' j)(hl:∀ j,F' j→j<w'.heap.size):SrvR w' F' s S:=by
 have hnew:∀ b,b<w.heap.size→¬ F b→¬ F' b:=fun b hb h1 h2=>(hF b h2).elim h1 (fun e=>by omega)
 exact⟨h.ok,h.blk.only ho (hs _ (.inl rfl)),h.rope.only ho (fun e=>h.rp.1 (hG _ e)) (fun b hb e=>h.rp.2 b hb (hG _ e)),h.good,h.doc,
  ⟨hnew _ h.rope.blk.lt h.rp.1,fun b hb=>hnew b (h.rope.tree.lt b hb) (h.rp.2 b hb)⟩,Q9 h.own ho (fun k hk=>hs _ (.inr (.inl hk))),h.log,
  h.ops.only (ho.mono (fun k _=>hG k)) hF,h.map.only ho (hs _ (.inr (.inr rfl))),h.tk,hs',hl⟩
theorem SrvR.below (h:SrvR w F s S)(hb:Below w.heap.size w w'):SrvR w' F s S:=h.only (G:=fun _=>False) (Only.of_below hb) (fun _ e=>e.elim) (fun _ _ e=>e) (Grow.refl _ _) h.sub (fun j hj=>Wal (h.flt j hj) hb.size)
theorem SrvR.lt (h:SrvR w F s S):∀ j,s.F j→j<w.heap.size:=by
 rintro j (rfl | e | rfl)
 ·exact h.blk.lt
 ·exact (h.own.lt j e).2
 ·exact h.map.lt
theorem SrvR.apart (h:SrvR w F s S):(∀ k,s.vl.ownBlock=some k→k≠s.a∧k≠s.m)∧s.a≠s.m:=by
 obtain⟨es,clock,hm⟩:=h.map.cap;have hb:=h.blk;unfold Blk at hb;refine⟨fun k hk=>?_,fun e=>?_⟩
 ·rcases h.own.2 with ⟨e,-⟩ | ⟨g,cap,cur,e,-,hg,-⟩
  ·rw[e] at hk;cases hk
  ·rw[e] at hk
   cases hk
   refine⟨fun e=>?_,fun e=>?_⟩
   ·have e2:g=s.a:=e;rw[e2,hb] at hg;simp at hg
   ·have e2:g=s.m:=e;rw[e2,hm] at hg
    cases hg
 ·rw[e,hm] at hb
  cases hb
theorem Zq {w:World}{g:Nat}{ty:TypeId}{a b c:Value}(h:Blk w g ty #[a,b,c]):w.cell? ⟨g,0,none⟩=some a∧w.cell? ⟨g,1,none⟩=some b∧w.cell? ⟨g,2,none⟩=some c:=by
 have z0:=h.cell 0;have z1:=h.cell 1;have z2:=h.cell 2;simp only[Wab,Waa,Wae] at z0 z1 z2
 exact⟨z0,z1,z2⟩
theorem Sl.entry {L:List (EN × Value)}{v:Value}{n:Nat}(h:Sl w 3 v n (ens L)){k:Nat}(hk:k<n)(hl:k<L.length):∃ b o c,v=.slice (some ⟨b,o,none⟩) n c∧b<w.heap.size ∧
  w.cell? ⟨b,o+k*3,none⟩=some (.int .i64 L[k].1.who)∧w.cell? ⟨b,o+k*3+1,none⟩=some (.int .i64 L[k].1.id)∧w.cell? ⟨b,o+k*3+2,none⟩=some L[k].2:=by
 obtain⟨A,c,rfl,h2,_,_,_,h5⟩:=h;obtain⟨ad,rfl,hb,hc⟩:=h5 (by omega);obtain⟨h1,h2,h3⟩:=Qdd hl;have c1:=hc _ _ h1;have c2:=hc _ _ h2;have c3:=hc _ _ h3;obtain⟨b,o,p⟩:=ad
 have hp:p=none:=by
  have hz:=hc 0 (.int .i64 (L[0]'(by omega)).1.who) (by have:=(Qdd (L:=L) (k:=0) (by omega)).1;simpa using this)
  have:(⟨b,o,p⟩:Addr).add 0=⟨b,o,p⟩:=by unfold Addr.add;rfl
  rw[this] at hz
  cases p with
  | none=>rfl
  | some x=>unfold World.cell? at hz;split at hz<;>simp at hz
 subst hp;simp only[Qz] at c1 c2 c3
 exact⟨b,o,c,rfl,hb,c1,by rw[← c2,Nat.add_assoc],by rw[← c3,Nat.add_assoc]⟩
end
theorem Qip {w:World}{F:Nat→Prop}{s:SP}{S:SV}(h:SrvR w F s S):Calls prog 218 #[.pointer (some ⟨s.a,0,none⟩)] w fun e w'=>e=.returned (.int .i64 (S.log.length:Int))∧w'=w:=by
 obtain⟨z0,z1,z2⟩:=Zq h.blk;have hl:=h.len;obtain⟨A,c,hv⟩:=Qm h.own;rw[hv,hl] at z1;clear h hl hv;go_enter func218,ntmps218
 go_wp2_with fail;go_ret
 exact⟨rfl,rfl⟩
theorem Qt0 {w:World}{F:Nat→Prop}{s:SP}{S:SV}(h:SrvR w F s S):Calls prog 219 #[.pointer (some ⟨s.a,0,none⟩)] w fun e w'=>e=.returned (.string ⟨S.doc.toArray⟩)∧Below w.heap.size w w':=by
 obtain⟨z0,z1,z2⟩:=Zq h.blk;have HT:=Hm (Qee h.rope (by have:=h.good.sz;omega));rw[← h.doc] at HT;clear h;go_enter func219,ntmps219
 go_wp2_with fail;refine HT.o.mono ?_;rintro e w1 ⟨rfl,hb⟩;have HB:=Hm hb;clear hb;go_wp2_with fail;go_ret
 exact⟨rfl,HB.o⟩
theorem Qiq {w:World}{F:Nat→Prop}{s:SP}{S:SV}(h:SrvR w F s S):Calls prog 279 #[.pointer (some ⟨s.p,0,none⟩)] w fun e w'=>e=.returned (.string ⟨S.doc.toArray⟩)∧Below w.heap.size w w':=by
 have:=Qee h.rope (by have:=h.good.sz;omega)
 rwa [← h.doc] at this
theorem J9 (w:World):(zeroValue 417).run prog w=.ok (.agg #[.int .i64 0,.int .i64 0]) w:=by kernel_rfl
end
section
open Go.RowKit Go.Sort
theorem Qgi (w:World)(A:Option Addr)(n c:Nat):(binOp .eql 214 (.slice A n c) (.slice none 0 0)).run prog w=.ok (.bool A.isNone) w:=Lib.run_eql_slice_nil w _ _ A n c 0 0 underlying214
theorem Qo7 {L:List (EN × Value)}{v:Value}{n:Nat}{w:World}(hsl:Sl w 3 v n (ens L))(h1:∀ u∈ens L,u.oneCell'=true)(hn:n≤1000000) :
  Calls prog 313 #[v] w fun e w'=>(∃ v',e=.returned v'∧w'.ownsRow w.heap.size 300 3 v' n (ens L))∧Below w.heap.size w w':=by
 have HSL:=Hm hsl;have H1:=Hm h1;clear h1;obtain⟨A,c,rfl,h2,-,-,hA,h5⟩:=hsl
 cases A with
 | none =>
  obtain rfl:=hA rfl
  obtain rfl:n=0:=by
   rcases Nat.eq_zero_or_pos n with h | h
   ·exact h
   ·obtain⟨ad,e,-⟩:=h5 h;cases e
  have hnil:ens L=[]:=List.eq_nil_of_length_eq_zero (by simpa using h2);have HNIL:=Hm hnil;clear hA h5 h2 hnil;have heq:=Qgi;go_enter func313,ntmps313
  go_wp2_with fail;go_ret
  exact⟨⟨_,rfl,by rw[HNIL.o];exact World.ownsRow_nil _ _ _ _⟩,Wac _ _⟩
 | some ad =>
  clear hA h5 h2;have heq:=Qgi;go_enter func313,ntmps313
  go_wp2_with (at_builtin;refine Qg0 Qay (ens L) (.slice (some ad) n c) Qhl (HSL.o.below (Qb (Wac _ _) _)) rfl rfl rfl rfl H1.o (by unfold maxLen;omega) (by omega) (by simp) ?_;intro v9 w9 hown9 hbel9 hgr9 hnew9;rw[Nat.zero_add,Wbn] at hown9;have HO9:=Hm hown9;obtain⟨A9,k9,rfl⟩:=Qm hown9;have HB9:=Hm hbel9;clear hown9 hbel9 hgr9 hnew9)
  go_ret
  exact⟨⟨_,rfl,HO9.o⟩,(Qb (Wac _ _) _).trans HB9.o⟩
theorem Qo8 {L:List (EN × Value)}{k:Nat}(hk:k<L.length)(v:Value):(ens L).set (k*3+2) v=ens (L.set k (L[k].1,v)):=by
 induction L generalizing k with
 | nil=>simp at hk
 | cons x L ih =>
  have e:∀ (y:EN × Value) (M:List (EN × Value)),ens (y :: M)=Value.int .i64 y.1.who :: Value.int .i64 y.1.id :: y.2 :: ens M:=fun y M=>by simp[ens,ecv]
  cases k with
  | zero=>simp only[e,Nat.zero_mul,Nat.zero_add,List.set_cons_zero,List.set_cons_succ,List.getElem_cons_zero]
  | succ k =>
   have h3:(k+1)*3+2=k*3+2+1+1+1:=by omega
   simp only[e,h3,List.set_cons_succ,List.getElem_cons_succ];rw[ih (by simpa using hk)]
structure Cps (w0 wr:World)(B:Nat)(v:Value)(L0 L:List (EN × Value))(k:Nat):Prop where
 own:wr.ownsRow B 300 3 v L.length (ens L)
 fst:L.map Prod.fst=L0.map Prod.fst
 new:∀ i (h:i<L.length),i<k→Sl wr 3 L[i].2 L[i].1.op.length (opv L[i].1.op)∧∀ g,v.ownBlock=some g→Frs (g+1) L[i].2
 old:∀ i (h:i<L.length),k≤i→∃ h0:i<L0.length,L[i].2=L0[i].2
theorem Cps.step {w0 wr w':World}{B g k cap:Nat}{v v':Value}{L0 L:List (EN × Value)}(h:Cps w0 wr B (.slice (some ⟨g,0,none⟩) L.length cap) L0 L k)(hk:k<L.length)(hb:Below wr.heap.size wr w')(hg:g<wr.heap.size)
  (hs:Sl w' 3 v' L[k].1.op.length (opv L[k].1.op)) (hf:Frs wr.heap.size v') (hv:v=.slice (some ⟨g,0,none⟩) L.length cap) :
  Cps w0 (w'.setCell ⟨g,k*3+2,none⟩ v') B v L0 (L.set k (L[k].1,v')) (k+1):=by
 subst hv;have hO:Only (fun j=>j=g) w' (w'.setCell ⟨g,k*3+2,none⟩ v'):=(Only.refl (fun j=>j=g) w').setCell (p:=⟨g,k*3+2,none⟩) (.inl rfl) _;have own':=(Q9 (h.own) (Only.of_below (S:=fun _=>False) hb) (fun _ _ e=>e)).stored (k*3+2) v';refine⟨?_,?_,fun i hi hik=>?_,fun i hi hik=>?_⟩
 ·rw[List.length_set,← Qo8 hk];exact own'.1
 ·rw[List.map_set,← h.fst]
  have:(L.map Prod.fst).set k ((L.map Prod.fst)[k]'(by simpa using hk))=L.map Prod.fst:=List.set_getElem_self _
  simpa using this
 ·rw[List.length_set] at hi;rw[List.getElem_set]
  split
  ·refine⟨hs.frs hf hO (fun j e=>by subst e;exact hg),fun g' e=>?_⟩
   cases e
   exact hf.mono (show g+1≤wr.heap.size from hg)
  ·obtain⟨n1,n2⟩:=h.new i hi (by omega);have n3:Frs (g+1) L[i].2:=n2 g rfl
   exact⟨(n1.below hb).frs n3 hO (fun j e=>by subst e;exact Nat.lt_succ_self _),fun g' e=>by cases e;exact n3⟩
 ·rw[List.length_set] at hi;rw[List.getElem_set,if_neg (by omega)];exact h.old i hi (by omega)
def Qo9 (S:SV)(r:Int)(w:World)(e:Ending)(w':World):Prop :=
 Below w.heap.size w w'∧(¬ (0≤r∧r≤(S.log.length:Int))→e=.returned (.tuple #[.slice none 0 0,errno 2])) ∧
  (0≤r∧r≤(S.log.length:Int)→∃ v L,e=.returned (.tuple #[v,.nilIface])∧Sl w' 3 v L.length (ens L)∧L.map Prod.fst=S.log.drop r.toNat∧(∀ x∈L,Sl w' 3 x.2 x.1.op.length (opv x.1.op)∧Frs w.heap.size x.2)∧Frs w.heap.size v)
section
attribute [local go_sem] Qz
theorem Qpa {w:World}{F:Nat→Prop}{s:SP}{S:SV}{r:Int}(h:SrvR w F s S)(hN:S.log.length≤1000) :
  Calls prog 293 #[.pointer (some ⟨s.a,0,none⟩),.int .i64 r] w (Qo9 S r w):=by
 obtain⟨z0,z1,z2⟩:=Zq h.blk;have hl:=h.len;have HL:=Hm h;obtain⟨A,c,hv⟩:=Qm h.own;rw[hv,hl] at z1;have hsl:=Sl.of_own h.own;rw[hv,hl] at hsl;have HSL:=Hm hsl;have HLN:=Hm hl;clear h hl hv hsl
 by_cases h0:r<0
 ·have HN0:Hd (¬ (0≤r∧r≤(S.log.length:Int))):=⟨by omega⟩;go_enter func293,ntmps293
  go_wp2_with fail;go_ret2
  exact⟨Wac _ _,fun _=>rfl,fun h=>absurd h HN0.o⟩
 by_cases h1:(S.log.length:Int)<r
 ·have HN0:Hd (¬ (0≤r∧r≤(S.log.length:Int))):=⟨by omega⟩;go_enter func293,ntmps293
  go_wp2_with fail;go_ret2
  exact⟨Wac _ _,fun _=>rfl,fun h=>absurd h HN0.o⟩
 obtain⟨k0,rfl⟩:=Was (show 0≤r by omega);have hk0:k0≤S.log.length:=by omega
 have HR:Hd (0≤(k0:Int)∧(k0:Int)≤(S.log.length:Int)):=⟨by omega⟩;have HEL:Hd ((ens s.L).drop (k0*3)=ens (s.L.drop k0)):=⟨(Qhk _ _).symm⟩;have H1:Hd (∀ u∈ens (s.L.drop k0),u.oneCell'=true):=⟨Qsk (F:=F) (fun x hx=>HL.o.ops x (List.mem_of_mem_drop hx)) (w:=w)⟩;obtain⟨L0,hL0⟩:∃ L0,L0=s.L.drop k0:=⟨_,rfl⟩;have HL0:=Hm hL0;have hl0:L0.length=S.log.length-k0:=by rw[hL0,War,HLN.o]
 have HN:=Hm hl0;rw[← hL0] at HEL H1;clear hL0 hl0;go_enter func293,ntmps293
 go_wp2_with (first
  | (refine Qge Qay (k:=k0) rfl rfl rfl rfl HSL.o hk0 ?_;intro A1 c1 hs1 hb1;rw[HEL.o] at hs1;have HS1:=Hm hs1;clear hs1 hb1)
  | (go_at_call 313;refine (Qo7 HS1.o H1.o (by omega)).mono ?_;rintro e w1 ⟨⟨v1,rfl,ho1⟩,hb1⟩;rw[← HN.o] at ho1;obtain⟨A2,c2,rfl⟩:=Qm ho1;have HO1:=Hm ho1;have HB1:=Hm hb1;clear ho1 hb1))
 have HM:Hd (L0.length≤1000):=⟨by have:=HN.o;omega⟩;have HC0:Hd (Cps w w1 w.heap.size (.slice A2 L0.length c2) L0 L0 0):=⟨⟨HO1.o,rfl,fun i _ h=>by omega,fun i h _=>⟨h,rfl⟩⟩⟩;clear hk0
 go_loopw [29] (fun i wr=>∃ (k:Nat) (L:List (EN × Value)),k≤L0.length∧i=.int .i64 k∧L.length=L0.length∧Cps w wr w.heap.size (.slice A2 L0.length c2) L0 L k∧Below w.heap.size w wr) (fun i _=>L0.length-(intOf i).toNat)
 case atStart=>exact⟨0,L0,Nat.zero_le _,rfl,rfl,HC0.o,HB1.o⟩
 case round =>
  obtain⟨k,L,hk,rfl,hlen,hcp,hbel⟩:=hrel;have HB:=Hm hbel;have HCP:=Hm hcp
  by_cases hkn:k<L0.length
  ·have hkl:k<L.length:=by omega
   obtain⟨g,cap,hv,hg1,hg2⟩:=hcp.own.form (by omega);rw[hlen] at hv
   cases hv
   obtain⟨h00,e2⟩:=hcp.old k hkl (Wak _);have hx:=HL.o.ops (L0[k]) (List.mem_of_mem_drop (by rw[← HL0.o];exact Wau _))
   have e1:L[k].1=L0[k].1:=by
    have:=congrArg (fun l=>l[k]?) hcp.fst
    simpa [hkl,hkn] using this
   have hso:=hx.1;rw[← e1,← e2] at hso;have HSO:=Hm (hso.below hbel);obtain⟨A8,c8,he8,-⟩:=hso;have hLk:L[k]=(L[k].1,Value.slice A8 L[k].1.op.length c8):=by rw[← he8]
   have hlog:S.log[k0+k]?=some L[k].1:=by
    have:=congrArg (fun l=>l[k]?) HL0.o
    have h2:=congrArg (fun l=>l[k0+k]?) HL.o.log;simp only[List.getElem?_drop,Wav,Waj hkn] at this h2;rw[← this] at h2;rw[← h2,e1];rfl
   have hsz:L[k].1.op.length≤1000000:=by
    obtain⟨g1,g2,g3,g4,g5,g6,g7⟩:=HL.o.ok.good hlog
    have:=Xh (fun p hp=>(g1 p hp).1)
    omega
   have hown:=hcp.own;rw[hlen] at hown;have cq:=hown.cellAt (k*3+2) (by omega);rw[(Qdd hkl).2.2,he8] at cq;have fq:=hown.frozenAt (k*3+2);have HKL:=Hm hkl;have HLE:=Hm hlen;have HE8:=Hm he8;have HSZ:=Hm hsz;clear hcp hown hlog hLk e1 e2 h00 hx hsz;rw[he8] at HSO;obtain⟨q,hq⟩:∃ q,q=L[k].1.op:=⟨_,rfl⟩;rw[← hq] at cq HSO HSZ;have HQ:=Hm hq;obtain⟨nq,hnq⟩:∃ m,m=q.length:=⟨_,rfl⟩;have HNQ:=Hm hnq;rw[← hnq] at cq HSO HSZ;clear hq hnq he8;have hkb:k<1000:=by have:=HM.o;omega
   have hgl:g<wr.heap.size:=by have:=HCP.o.own.lt g rfl;exact this.2
   go_wp2_with fail;refine (Qde HSO.o HSZ.o).mono ?_;rintro e w9 ⟨⟨v9,rfl,hs9,hf9⟩,hb9⟩;have HS9:=Hm hs9;have HF9:=Hm hf9;have HB9:=Hm hb9;obtain⟨A9,c9,rfl,-⟩:=hs9;have cq9:w9.cell? ⟨g,k*3+2,none⟩=some (.slice A8 nq c8):=by rw[← cq];exact hb9.cell (p:=⟨g,_,none⟩) hgl
   have fq9:w9.frozen? ⟨g,k*3+2,none⟩=false:=by rw[← fq];exact hb9.frozen (p:=⟨g,_,none⟩) hgl
   have hgl9:g<w9.heap.size:=Wal hgl hb9.size;clear cq fq hb9 hf9;go_wp2_with fail;have hcp2:Cps w wr w.heap.size (.slice (some ⟨g,0,none⟩) L.length c2) L0 L k:=by rw[HLE.o];exact HCP.o
   have hst:=hcp2.step (v:=.slice (some ⟨g,0,none⟩) L0.length c2) HKL.o HB9.o hgl (by rw[← HQ.o,← HNQ.o];exact HS9.o) HF9.o (by rw[HLE.o])
   exact⟨⟨k+1,_,by omega,by go_num,by rw[List.length_set,HLE.o],hst,(Qa HB.o HB9.o).setCell hg1 _⟩,by simp only[intOf];omega⟩
  ·obtain rfl:k=L0.length:=by omega
   have HLE:=Hm hlen;clear hcp hbel;go_wp2_with fail;go_ret2;refine⟨HB.o,fun h=>absurd HR.o h,fun _=>⟨_,L,rfl,by rw[HLE.o];have:=Sl.of_own HCP.o.own;rwa [HLE.o] at this,?_,fun x hx=>?_,Frs.of_own HCP.o.own⟩⟩
   ·rw[HCP.o.fst,HL0.o,List.map_drop,HL.o.log];rfl
   ·obtain⟨i,hi,rfl⟩:=List.getElem_of_mem hx;obtain⟨n1,n2⟩:=HCP.o.new i hi (by have:=HLE.o;omega);refine⟨n1,?_⟩;obtain⟨g,cap,hv,hg1,-⟩:=HCP.o.own.form (by omega);exact (n2 g (by rw[hv];rfl)).mono (by omega)
end
end
section
open Go.RowKit Go.Sort
def Zn (F:Nat→Prop)(w:World):Prop:=Hdl w∧¬ F 0
theorem Zn.only {w w':World}{F F':Nat→Prop}(h:Zn F w)(ho:Only F w w')(hF:Grow F F' w.heap.size):Zn F' w':=by
 refine⟨?_,fun e=>(hF _ e).elim h.2 (fun e=>by have:=h.1.lt;omega)⟩
 have:=h.1
 unfold Hdl at this ⊢;rw[← this];exact World.cell?_of_block (ho.block _ h.1.lt h.2)
theorem Zn.below {w w':World}{F F':Nat→Prop}(h:Zn F w)(hb:Below w.heap.size w w')(hF:Grow F F' w.heap.size):Zn F' w':=h.only (Only.of_below hb) hF
def Ze (F:Nat→Prop)(s:SP)(r:Int × SV)(w:World)(e:Ending)(w':World):Prop :=
 ∃ s':SP,s'.a=s.a∧s'.m=s.m∧Only s.F w w'∧Grow s.F s'.F w.heap.size∧e=.returned (Q4 r.1)∧∀ F',(∀ j,F' j→F j∨s'.F j)→(∀ j,s'.F j→F' j)→SrvR w' F' s' r.2
theorem Sl.lit {w:World}{t:TypeId}{size m:Nat}{cs:Array Value}(hl:cs.size=m*size)(hm:m≤maxLen):Sl (w.alloc (.cells cs t)) size (.slice (some ⟨w.heap.size,0,none⟩) m m) m cs.toList:=by
 refine⟨_,_,rfl,by simpa using hl,Wak _,hm,(fun h=>nomatch h),fun _=>⟨_,rfl,by simp,fun j u hu=>?_⟩⟩
 have:(⟨w.heap.size,0,none⟩:Addr).add j=⟨w.heap.size,j,none⟩:=by unfold Addr.add;split<;>simp_all
 rw[this,World.cell?_alloc_new];simpa using hu
theorem Ze.same {F:Nat→Prop}{s:SP}{S:SV}{w w':World}{c:Int}{e:Ending}(h:SrvR w F s S)(hb:Below w.heap.size w w')(he:e=.returned (Q4 c)):Ze F s (c,S) w e w' :=
 ⟨s,rfl,rfl,Only.of_below hb,Grow.refl _ _,he,fun _ h1 h2=>h.only (G:=fun _=>False) (Only.of_below hb) (fun _ e=>e.elim) (fun _ _ e=>e) (fun j hj=>.inl ((h1 j hj).elim id (h.sub j))) h2 (fun j hj=>Wal (h.flt j ((h1 j hj).elim id (h.sub j))) hb.size)⟩
theorem SrvR.push {w w5 w6 w7 w8:World}{F:Nat→Prop}{s:SP}{S:SV}{who id:Int}{lo:List PT}{R2:List Int}{p5:Nat}{t5:RT}{v7 v8:Value}(h:SrvR w F s S)
  (hok:SVok ⟨S.docs++[U.encs R2],S.log++[⟨who,id,lo⟩],S.last,S.tk⟩) (h5:Below w.heap.size w w5) (hat:AtR w5 p5 t5) (hg:Good t5) (hr:t5.runes=R2) (hp:w.heap.size≤p5∧∀ i∈t5.blocks,w.heap.size≤i)
  (h6:Only (fun k=>k=s.a) w5 w6) (hb6:Blk w6 s.a 216 #[.pointer (some ⟨p5,0,none⟩),s.vl,.map (some s.m)]) (h7:Below w6.heap.size w6 w7) (hs7:Sl w7 3 v7 lo.length (opv lo)) (hf7:Frs w6.heap.size v7)
  (h8:w8.ownsRow 0 300 3 v8 (s.L.length+1) (ens s.L++ecv (⟨who,id,lo⟩,v7))) (hg8:w7.grownBy w8 s.vl.ownBlock) (hn8:∀ k,v8.ownBlock=some k→s.vl.ownBlock=some k∨w7.heap.size≤k)
  {c:Int} (hc:c=0) {e:Ending} (he:e=.returned .nilIface):Ze F s (c,⟨S.docs++[U.encs R2],S.log++[⟨who,id,lo⟩],S.last,S.tk⟩) w e (w8.setCell ⟨s.a,1,none⟩ v8):=by
 subst hc;obtain⟨ap1,ap2⟩:=h.apart;have hlt:=h.lt;have la:=hlt s.a (.inl rfl);have lm:=hlt s.m (.inr (.inr rfl));have lv:=fun k hk=>hlt k (.inr (.inl hk))
 have z5:=h5.size;have z6:=h6.size;have z7:=h7.size;have z8:=hg8.size;have o8:Only (fun k=>s.vl.ownBlock=some k) w7 w8:=(Only.of_grown hg8).mono (fun k _ e=>e.symm);have o9:Only (fun k=>k=s.a) w8 (w8.setCell ⟨s.a,1,none⟩ v8):=(Only.refl (fun k=>k=s.a) w8).setCell (p:=⟨s.a,1,none⟩) (.inl rfl) _
 have hall:Only s.F w (w8.setCell ⟨s.a,1,none⟩ v8) :=
  ((((Only.of_below h5).trans (h6.mono (fun _ _ e=>.inl e))).trans (Only.of_below h7)).trans (o8.mono (fun _ _ e=>.inr (.inl e)))).trans (o9.mono (fun _ _ e=>.inl e))
 have hgrow:∀ k,v8.ownBlock=some k→s.F k∨w7.heap.size≤k:=fun k hk=>(hn8 k hk).imp_left (fun e=>.inr (.inl e))
 have l8:∀ k,v8.ownBlock=some k→k<w8.heap.size:=fun k hk=>(h8.lt k hk).2
 have b8:Blk w8 s.a 216 #[.pointer (some ⟨p5,0,none⟩),s.vl,.map (some s.m)]:=(hb6.below h7 hb6.lt).only o8 (fun e=>(ap1 _ e).1 rfl);have lp:=hat.blk.lt
 have a8:AtR (w8.setCell ⟨s.a,1,none⟩ v8) p5 t5 :=
  (((hat.only h6 (by have:=hp.1;omega) (fun b hb=>by have:=hp.2 b hb;omega)).below h7).only o8 (fun e=>by have:=lv _ e;have:=hp.1;omega) (fun b hb e=>by have:=lv _ e;have:=hp.2 b hb;omega)).only o9 (by have:=hp.1;omega) (fun b hb=>by have:=hp.2 b hb;omega)
 refine⟨⟨s.a,p5,t5,v8,s.m,s.k,s.L++[(⟨who,id,lo⟩,v7)]⟩,rfl,rfl,hall,?_,he,fun F' k1 k2=>?_⟩
 ·rintro j (e | e | e)
  ·exact .inl (.inl e)
  ·exact (hgrow j e).imp_right (fun e=>by omega)
  ·exact .inl (.inr (.inr e))
 have kG:∀ j,F' j→F j∨w7.heap.size≤j:=fun j hj=>by
  rcases k1 j hj with hj | hj
  ·exact .inl hj
  ·rcases hj with e | e | e
   ·exact .inl (h.sub j (.inl e))
   ·exact (hgrow j e).imp_left (h.sub j)
   ·exact .inl (h.sub j (.inr (.inr e)))
 refine⟨hok,b8.set_ 1 v8,a8,hg,?_,⟨fun e=>?_,fun b hb e=>?_⟩,?_,?_,fun x hx=>?_,?_,h.tk,k2,fun j hj=>?_⟩
 ·unfold SV.doc;have hl:=h.ok.len;dsimp only;rw[Wad,Way (by simp;omega)];simp[hl,hr]
 ·rcases kG _ e with e | e
  ·have:=h.flt _ e;have:=hp.1;dsimp only at *;omega
  ·dsimp only at e;omega
 ·have:=hat.tree.lt b hb
  rcases kG _ e with e | e
  ·have:=h.flt _ e;have:=hp.2 b hb;omega
  ·omega
 ·have:(ens (s.L++[(⟨who,id,lo⟩,v7)]))=ens s.L++ecv (⟨who,id,lo⟩,v7):=by rw[Qsh,Qsi]
  rw[this,Wad];refine Q9 h8 o9 (fun k hk e=>?_);rcases hn8 k hk with e2 | e2
  ·exact (ap1 k e2).1 e
  ·omega
 ·rw[Wbo,h.log];rfl
 ·rcases List.mem_append.1 hx with hx | hx
  ·exact (h.ops x hx).only (hall.mono (fun k _=>h.sub k)) (fun j hj=>(kG j hj).imp_right (fun e=>by omega))
  ·obtain rfl:=Wbd.1 hx
   have hblk:∀ ad n c,v7=.slice (some ad) n c→0<n→w6.heap.size≤ad.block∧ad.block<w7.heap.size:=fun ad n c e hn=>by
    refine⟨hf7 ad n c e,?_⟩;obtain⟨A,c',e',-,-,-,-,hh⟩:=hs7;rw[e'] at e
    cases e
    obtain⟨ad',e2,hb,-⟩:=hh hn
    cases e2
    exact hb
   refine⟨(hs7.only o8 (fun A c e hn hA=>by have:=hblk A _ c e hn;have:=lv _ hA;omega)).only o9 (fun A c e hn hA=>by have:=hblk A _ c e hn;omega),fun ad n c e hn hF=>?_⟩
   have:=hblk ad n c e hn
   rcases kG _ hF with e | e
   ·have:=h.flt _ e;omega
   ·omega
 ·refine (((h.map.below h5).only h6 (fun e=>ap2 e.symm)).below h7).only o8 (fun e=>(ap1 _ e).2 rfl) |>.only o9 (fun e=>ap2 e.symm)
 ·rw[World.size_setCell];rcases k1 j hj with hj | hj
  ·have:=h.flt j hj;omega
  ·rcases hj with e | e | e
   ·dsimp only at e;omega
   ·exact l8 j e
   ·dsimp only at e;omega
section
attribute [local go_sem] Qz
theorem Qgc {w:World}{F:Nat→Prop}{s:SP}{S:SV}{who id rev:Int}{op:List PT}{v:Value}(h:SrvR w F s S)(hg:Zn F w)(hN:S.log.length≤1000)(hxo:OpO F w v op)(hp:Qd op≤100000)(_hn:op.length≤200000) :
  Calls prog 292 #[.pointer (some ⟨s.a,0,none⟩),.int .i64 who,.int .i64 id,.int .i64 rev,v] w (Ze F s (S.does who id rev op) w):=by
 obtain⟨z0,z1,z2⟩:=Zq h.blk;have hl:=h.len;have HL:=Hm h;have HG:=Hm hg.1;have hx:=hxo.sl;have HX:=Hm hx;have HXO:=Hm (hxo.sub h.sub);have HLT:=Hm h.lt;have HP:=Hm hp;have HPP:Hd (∀ p∈op,p.put.length≤35184372087808):=⟨fun p hp'=>by have:=Y2 hp';omega⟩;obtain⟨A,c,hv⟩:=Qm h.own;rw[hv,hl] at z1;have hsl:=Sl.of_own h.own;rw[hv,hl] at hsl;have HSL:=Hm hsl;have HLN:=Hm hl;have HV:=Hm hv;obtain⟨Ax,cx,rfl,-⟩:=hx;clear h hl hv hsl hg hp hxo
 by_cases h0:rev<0
 ·have HD:Hd (S.does who id rev op=(2,S)):=⟨by unfold SV.does;rw[if_pos (.inl h0)]⟩;go_enter func292,ntmps292
  go_wp2_with fail;go_ret;rw[HD.o];exact Ze.same HL.o (Wac _ _) rfl
 by_cases h1:(S.log.length:Int)<rev
 ·have HD:Hd (S.does who id rev op=(2,S)):=⟨by unfold SV.does;rw[if_pos (.inr h1)]⟩;go_enter func292,ntmps292
  go_wp2_with fail;go_ret;rw[HD.o];exact Ze.same HL.o (Wac _ _) rfl
 by_cases h300:300≤S.log.length
 ·have HD:Hd (S.does who id rev op=(4,S)):=⟨by unfold SV.does;rw[if_neg (by omega),if_pos h300]⟩;have h3:(300:Int)≤(S.log.length:Int):=by omega
  go_enter func292,ntmps292
  go_wp2_with fail;go_ret;rw[HD.o];exact Ze.same HL.o (Wac _ _) rfl
 have h3:¬ ((300:Int)≤(S.log.length:Int)):=by omega
 obtain⟨r,rfl⟩:=Was (show 0≤rev by omega);have hrl:r≤S.log.length:=by omega
 have hrev:(Int.ofNat r).toNat=r:=rfl
 have HD0:Hd (S.does who id (r:Int) op=if chk op (((S.docs[r]?).getD []).length:Nat)≠0 then (chk op (((S.docs[r]?).getD []).length:Nat),S)
   else if apc (Q5 op (S.log.drop r)) S.doc≠0 then (apc (Q5 op (S.log.drop r)) S.doc,S)
   else if 2000<(apr (Q5 op (S.log.drop r)) S.doc).length then (12,S)
   else (0,⟨S.docs++[apr (Q5 op (S.log.drop r)) S.doc],S.log++[⟨who,id,Q5 op (S.log.drop r)⟩],S.last,S.tk⟩)):=⟨by
  unfold SV.does;rw[if_neg (by omega),if_neg h300];rfl⟩
 obtain⟨R,hR1,hR2,hR3⟩:=HL.o.ok.at_ hrl;obtain⟨n,hn'⟩:∃ n,n=((S.docs[r]?).getD []).length:=⟨_,rfl⟩;have HNN:=Hm hn';have hnb:n≤2000:=by rw[hn',hR1];exact hR3
 have HDT:=Hm (Qiq HL.o);clear hrev hn' hR1 hR2 hR3 h300;go_enter func292,ntmps292
 go_upto_if 50 with (go_at_call 279;refine HDT.o.mono ?_;rintro e w0 ⟨rfl,hb0⟩;have HB0:=Hm hb0;have v1:=hb0.cell (p:=⟨s.a,1,none⟩) HL.o.blk.lt;rw[z1] at v1;clear hb0)
 go_cut [11] from 50 to 62 (fun sn wx=>sn=.int .i64 (n:Int)∧Below w.heap.size w wx)
 case first =>
  by_cases hlt:r<S.log.length
  ·have hlt':(r:Int)<(S.log.length:Int):=by omega
   obtain⟨b,o,c',hv,hbw,c0,c1,c2⟩:=HSL.o.entry hlt (by have:=HLN.o;omega)
   cases hv
   have hrL:r<s.L.length:=by have:=HLN.o;omega
   have hxl:s.L[r]∈s.L:=Wau hrL;have hso:=(HL.o.ops _ hxl).1;have hlog:S.log[r]?=some s.L[r].1:=by rw[← HL.o.log,Wav,Waj hrL];rfl
   obtain⟨g1,g2,-⟩:=HL.o.ok.good hlog;generalize s.L[r]=xr at *;have HSO:=Hm hso;obtain⟨Ar,cr,hxr,-⟩:=hso;have HW:Hd (wrap64 (was xr.1.op)=(n:Int)):=⟨by rw[g2,← HNN.o];exact YK (by omega) (by omega)⟩;rw[hxr] at c2 HSO;clear hxl hlog g1 g2;have d2:=HB0.o.cell (p:=⟨b,o+r*3+2,none⟩) hbw;rw[c2] at d2;have hbw0:b<w0.heap.size:=Wal hbw HB0.o.size;go_wp2_with (go_at_call 208;refine (Xm (HSO.o.below HB0.o)).mono ?_;rintro e w2 ⟨rfl,hb2⟩;rw[HW.o];have HB2:=Hm (Qa HB0.o hb2);clear hb2)
   go_meet
   exact⟨rfl,HB2.o⟩
  ·have hlt':¬ ((r:Int)<(S.log.length:Int)):=by omega
   obtain rfl:r=S.log.length:=by omega
   have HW:Hd (S.doc.length=n):=⟨HNN.o.symm⟩;go_wp2_with fail;go_meet
   exact⟨by rw[HW.o],HB0.o⟩
 case rest =>
  obtain⟨rfl,hb1⟩:=hcut
  rename_i w1
  have HB1:=Hm hb1;have y0:=hb1.cell (p:=⟨s.a,0,none⟩) HL.o.blk.lt;have y1:=hb1.cell (p:=⟨s.a,1,none⟩) HL.o.blk.lt;rw[z0] at y0;rw[z1] at y1;have HCK:=Hm (Zv (m:=(n:Int)) (HG.o.below hb1) (HX.o.below hb1) HPP.o (by omega));clear hb1
  by_cases hc:chk op (n:Int)=0
  ·rw[← HNN.o] at HD0;have HC:=Hm hc;have HD1:=Hm (HD0.o.trans (if_neg (fun h=>h hc)));have hce:Q4 (chk op (n:Int))=Value.nilIface:=by rw[hc];rfl
   have HCE:=Hm hce;clear hc hce HD0;have HEL:Hd ((ens s.L).drop (r*3)=ens (s.L.drop r)):=⟨(Qhk _ _).symm⟩
   go_wp2_with (first
    | (go_at_call 262;refine HCK.o.mono ?_;rintro e w2 ⟨⟨ev,rfl,-,rfl⟩,hb2⟩;rw[HCE.o];have HB2:=Hm (Qa HB1.o hb2);have x0:=hb2.cell (p:=⟨s.a,0,none⟩) (Wal HL.o.blk.lt HB1.o.size);have x1:=hb2.cell (p:=⟨s.a,1,none⟩) (Wal HL.o.blk.lt HB1.o.size);rw[y0] at x0;rw[y1] at x1;clear hb2)
    | (refine Qge Qay (k:=r) rfl rfl rfl rfl (HSL.o.below HB2.o) hrl ?_;intro A1 c1 hs1 hb1;rw[HEL.o] at hs1;have HS1:=Hm hs1;clear hs1 hb1))
   clear y0 y1 x0 z0 z1 z2
   go_loopw [4,76] (fun vo i wr=>∃ (k:Nat) (lo:List PT),k≤S.log.length-r∧i=.int .i64 k∧lo=Q5 op ((S.log.drop r).take k)∧OpO s.F wr vo lo∧Below w2.heap.size w2 wr) (fun _ i _=>(S.log.length-r)-(intOf i).toNat)
   case atStart=>exact⟨0,op,Nat.zero_le _,rfl,rfl,HXO.o.below HB2.o (Grow.refl _ _),Wac _ _⟩
   case round =>
    obtain⟨k,lo,hk,rfl,hlo,hso,hbel⟩:=hrel;have HW2:=Hm hbel;have HB:=Hm (Qa HB2.o hbel);have HOO:=Hm hso;have hso:=hso.sl;have HSO:=Hm hso;obtain⟨fg1,fg2,fg3⟩:=Qu8 HL.o.ok (r:=r) (op:=op) (by rw[← HNN.o];exact HC.o) k (by omega);rw[← hlo] at fg1 fg2 fg3
    by_cases hkn:k<S.log.length-r
    ·have hkl:k<(s.L.drop r).length:=by rw[War,HLN.o];exact hkn
     obtain⟨b,o,c',hv,hbw,c0,c1',c2⟩:=(HS1.o.below hbel).entry hkn hkl
     cases hv
     have hxl:(s.L.drop r)[k]∈s.L:=List.mem_of_mem_drop (Wau hkl);have hse:=(HL.o.ops _ hxl).1
     have hlog:S.log[r+k]?=some ((s.L.drop r)[k]).1:=by
      rw[← HL.o.log,Wav,← List.getElem?_drop,Waj hkl];rfl
     have hstep:Q5 op ((S.log.drop r).take (k+1))=trl false lo ((s.L.drop r)[k]).1.op:=by
      have hk3:k<(S.log.drop r).length:=by rw[War];exact hkn
      rw[Wag hk3,Qdw,← hlo]
      have:(S.log.drop r)[k]=((s.L.drop r)[k]).1:=by
       have h1:(S.log.drop r)[k]?=some ((s.L.drop r)[k]).1:=by rw[List.getElem?_drop];exact hlog
       rw[Waj hk3] at h1;exact Wbg h1
      rw[this]
     obtain⟨g1,g2,g3,g4,g5,g6,g7⟩:=HL.o.ok.good hlog;generalize (s.L.drop r)[k]=xr at *;have hd2000:was lo≤2000:=by rw[fg2,← g2];exact g5
     have HTC:=Hm (Qi9 (n:=((S.docs[r+k]?).getD []).length) fg1 g1 fg2 g2 (by omega));have HM1:=Hm (Qdx fg1 (by omega) (by rw[fg3];exact HP.o));have HM2:=Hm (Qdx g1 (by omega) (by omega));have HST:=Hm hstep;have HSE:=Hm (hse.below HB.o);obtain⟨Ae,ce,hxe,-⟩:=hse;rw[hxe] at c2 HSE;obtain⟨Ao,co,rfl,-⟩:=hso;have hkb:k<1000:=by omega
     clear hlo fg1 fg2 fg3 hxl hlog g1 g2 g3 g4 g5 g6 g7 hstep hd2000 hxe hbel hkl;generalize xr.1.op=le at *;generalize xr.1.who=xw at *;generalize xr.1.id=xi at *;go_wp2_with (go_at_call 295;refine (Qie (first:=false) (HG.o.below (Qb HB.o _)) (HSO.o.below (Qb (Wac _ _) _)) (HSE.o.below (Qb (Wac _ _) _)) HM1.o HM2.o).mono ?_;rintro e w9 ⟨⟨hb9,v9,rfl,hs9,-⟩,hf9⟩;have HS9:=Hm (hs9 HTC.o);have HF9:=Hm ((hf9 _ _ rfl).mono (B':=w.heap.size) (by simp only[Waq];have:=HB.o.size;omega));clear hf9;rw[HTC.o,YC];have HB9:=Hm ((Qb (Wac _ _) _).trans (hb9.mono (by simp)):Below wr.heap.size wr w9);obtain⟨A9,c9,rfl,-⟩:=HS9.o;clear hs9 hb9)
     exact⟨⟨k+1,trl false lo le,by omega,by go_num,HST.o.symm,OpO.frs HS9.o HF9.o HLT.o,HW2.o.trans (HB9.o.mono HW2.o.size)⟩,by simp only[intOf];omega⟩
    ·obtain rfl:k=S.log.length-r:=by omega
     rw[List.take_of_length_le (by rw[War];omega)] at hlo;rw[show r+(S.log.length-r)=S.log.length from by omega] at fg2;rw[← hlo] at HD1;have HLO:=Hm hlo;obtain⟨R,hR1,hR2,hR3,hR4⟩:=HL.o.ok.doc_;have hdl:S.doc.length≤2000:=by rw[hR1];exact hR3
     have y0:=(Qa HB1.o (Wac _ _)).cell (p:=⟨s.a,0,none⟩) HL.o.blk.lt;have hc0:=Zq (HL.o.blk.below HB.o HL.o.blk.lt);obtain⟨z0,z1,z2⟩:=hc0;have HTX:=Hm (Qiq (HL.o.below HB.o));have HPL:Hd (Qd lo≤100000):=⟨by rw[fg3];exact HP.o⟩;have HAP:=fun (W:World) (hW:Below wr.heap.size wr W)=>Hm (Qed (s:=S.doc) (HG.o.below (Qa HB.o hW)) (HSO.o.below hW) (fun p hp'=>by have:=Y2 hp';have:=HPL.o;omega) (by have:=HPL.o;omega) (by omega))
     have HFG:=Hm fg1;have HHB:=hbel;obtain⟨Ao,co,rfl,-⟩:=hso;have HR1:=Hm hR1;clear fg1 fg2 fg3 hbel hR4 y0 hlo;have HHBL:=Hm HHB;clear HHB hR1
     by_cases ha:apc lo S.doc=0
     ·have HD2:=Hm (HD1.o.trans (if_neg (fun h=>h ha)));rw[HR1.o] at ha;obtain⟨X,hX⟩:=Qdv hR2 ha;have hap:=(hX.apply hR2).2;rw[← HR1.o] at hap ha;have hall:=QW hX.allP hR2;obtain⟨R2,hR2e⟩:∃ x,x=rap X R:=⟨_,rfl⟩;rw[← hR2e] at hap hall;have HAE:Hd (Q4 (apc lo S.doc)=Value.nilIface):=⟨by rw[ha];rfl⟩;have HAQ:=Hm hap;have HALL:=Hm hall;have HX2:=Hm hX;have HR2E:=Hm hR2e;clear ha hap hall hX hR2e
      by_cases h20:2000<bl R2
      ·have hi:(2000:Int)<((U.encs R2).length:Int):=by show (2000:Int)<(bl R2:Int);omega
       have HD3:=Hm (HD2.o.trans (if_pos (by rw[HAQ.o];exact h20)));clear h20
       go_wp2_with (first
        | (go_at_call 279;refine HTX.o.mono ?_;rintro e w3 ⟨rfl,hb3⟩;have HB3:=Hm hb3;clear hb3)
        | (go_at_call 294;refine (HAP _ HB3.o).out.mono ?_;rintro e w4 ⟨rfl,hb4⟩;rw[HAE.o,HAQ.o];have HB4:=Hm (Qa (Qa HB.o HB3.o) hb4);clear hb4))
       go_ret;rw[HD3.o];exact Ze.same HL.o HB4.o rfl
      ·have hi:¬ ((2000:Int)<((U.encs R2).length:Int)):=by show ¬ ((2000:Int)<(bl R2:Int));omega
       have HD3:=Hm (HD2.o.trans (if_neg (by rw[HAQ.o];exact h20)));have HBL:Hd (bl R2≤2000):=⟨by omega⟩;rw[HAQ.o] at HD3;have HNW:=fun W=>Hm (Qaj (U.sp_encs HALL.o) W (by have h1:(U.encs R2).length=bl R2:=rfl;have:=HBL.o;omega))
       clear h20
       go_upto_region 27 with (first
        | (go_at_call 279;refine HTX.o.mono ?_;rintro e w3 ⟨rfl,hb3⟩;have HB3:=Hm hb3;clear hb3)
        | (go_at_call 294;refine (HAP _ HB3.o).out.mono ?_;rintro e w4 ⟨rfl,hb4⟩;rw[HAE.o,HAQ.o];have HB4:=Hm (Qa (Qa HB.o HB3.o) hb4);have HR4:=Hm (Qa HB3.o hb4);clear hb4)
        | (go_at_call 134;refine (HNW _).out.mono ?_;rintro e w5 ⟨hb5,-,-,h5⟩;obtain⟨p5,t5,rfl,hat5,hg5,hr5,hp5,ht5⟩:=h5 rfl (by have:=HBL.o;omega);have HB5:=Hm (Qa HB4.o hb5);have HR5:=Hm (Qa HR4.o hb5);have HAT5:=Hm hat5;have HG5:=Hm hg5;have HE5:=Hm hr5;have HP5:=Hm (Wao (Wbf HB4.o.size hp5) (fun i hi=>Wbf HB4.o.size (ht5 i hi)));have hbk:=HL.o.blk.below HB5.o HL.o.blk.lt;have HBK5:=Hm hbk;obtain⟨z0,z1,z2⟩:=Zq hbk;have zf:=hbk.frozen;have zl:=hbk.lt;clear hb5 h5 hat5 hg5 hr5 hp5 ht5 hbk))
       obtain⟨w6,hw6⟩:∃ W,W=w5.setCell ⟨s.a,0,none⟩ (.pointer (some ⟨p5,0,none⟩)):=⟨_,rfl⟩;have hbk6:Blk w6 s.a 216 #[.pointer (some ⟨p5,0,none⟩),s.vl,.map (some s.m)]:=by rw[hw6];exact HBK5.o.set_ 0 _
       have ho6:Only (fun k=>k=s.a) w5 w6:=by rw[hw6];exact (Only.refl (fun k=>k=s.a) w5).setCell (p:=⟨s.a,0,none⟩) (.inl rfl) _
       rw[← hw6];clear hw6 z0 z1 z2 zf zl;have HBK6:=Hm hbk6;have HO6:=Hm ho6;have HSO6:=Hm ((HOO.o.below HR5.o (Grow.refl _ _)).only (ho6.mono (fun _ _ e=>.inl e)) (Grow.refl _ _)).sl;have HOW6:=Hm (Q9 (HL.o.own) ((Only.of_below HB5.o).trans (ho6.mono (S':=fun k=>k=s.a) (fun _ _ e=>e))) (fun k hk e=>(HL.o.apart.1 k hk).1 e));have HLL:Hd (lo.length≤1000000):=⟨by have h1:=Xh (fun p hp=>(HFG.o p hp).1);have h2:=HX2.o.sizes.1;have:=HPL.o;omega⟩;obtain⟨z0,z1,z2⟩:=Zq hbk6;rw[HV.o,HLN.o] at z1;have zf:=hbk6.frozen;have zl:=hbk6.lt;clear hbk6 ho6;have how6:=HOW6.o;rw[HV.o,HLN.o] at how6;have HOX6:=Hm how6;clear how6
       go_region_law (first
        | (go_simp;refine (Qde (HSO6.o.below (Qe (Wac _ _))) HLL.o).mono ?_;rintro e w7 ⟨⟨v7,rfl,hs7,hf7⟩,hb7⟩;have HB7:=Hm ((Qe (Wac _ _)).trans hb7:Below w6.heap.size w6 w7);have HS7:=Hm hs7;have HF7:Hd (Frs w6.heap.size v7):=⟨hf7⟩;obtain⟨A7,c7,rfl,-⟩:=hs7;have HBK7:=Hm (HBK6.o.below HB7.o HBK6.o.lt);have HOW7:=Hm (Q9 HOX6.o (Only.of_below (S:=fun _=>False) HB7.o) (fun _ _ e=>e));obtain⟨x0,x1,x2⟩:=Zq HBK7.o;rw[HV.o,HLN.o] at x1;have xf:=HBK7.o.frozen;have xl:=HBK7.o.lt;clear hf7 hb7)
        | (refine ZL Qay [.int .i64 who,.int .i64 id,.slice A7 lo.length c7] (.slice (some ⟨w7.heap.size,0,none⟩) 1 1) (HOW7.o.alloc _) (Sl.lit rfl (by unfold maxLen;omega)) rfl rfl rfl rfl (QP (a:=.int .i64 who) (b:=.int .i64 id) (c:=.slice A7 lo.length c7) rfl rfl rfl) (by unfold maxLen;omega) (by omega) (Nat.zero_le _) ?_;intro v8 w8 hown8 hbel8 hgr8 hnew8;have HO8:=Hm hown8;obtain⟨A8,c8,rfl⟩:=Qm hown8;have HGR8:=Hm hgr8;have HNW8:=Hm hnew8;have hbk8:=(HBK7.o.alloc _).only (Only.of_grown hgr8) (fun e=>(HL.o.apart.1 s.a (by rw[HV.o,HLN.o];exact e.symm)).1 rfl);obtain⟨y0,y1,y2⟩:=Zq hbk8;have yf:=hbk8.frozen;have yl:=hbk8.lt;rw[HV.o,HLN.o] at y1;clear hown8 hbel8 hgr8 hnew8 hbk8))
       all_goals
        go_wp2_with fail;go_ret;rw[HD3.o];have hok:=HL.o.ok.does who id (r:Int) op;rw[HD3.o] at hok;exact HL.o.push hok HB5.o HAT5.o HG5.o HE5.o HP5.o HO6.o HBK6.o (Qb HB7.o _) (HS7.o.below (Qb (Wac _ _) _)) HF7.o (by rw[HLN.o];exact HO8.o) (by rw[HV.o,HLN.o];exact HGR8.o) (fun k hk=>by rw[HV.o,HLN.o];exact HNW8.o k hk) rfl rfl
     ·have HD2:=Hm (HD1.o.trans (if_pos ha));have HAE:Hd (Q4 (apc lo S.doc)=Value.iface 31 (.int .i64 (apc lo S.doc))):=⟨if_neg ha⟩;clear ha
      go_wp2_with (first
       | (go_at_call 279;refine HTX.o.mono ?_;rintro e w3 ⟨rfl,hb3⟩;have HB3:=Hm hb3;clear hb3)
       | (go_at_call 294;refine (HAP _ HB3.o).out.mono ?_;rintro e w4 ⟨rfl,hb4⟩;rw[HAE.o];have HB4:=Hm (Qa (Qa HB.o HB3.o) hb4);clear hb4))
      go_ret;rw[HD2.o];exact Ze.same HL.o HB4.o (congrArg Ending.returned HAE.o.symm)
  ·have HC:=Hm hc;rw[← HNN.o] at HD0;have HD1:=Hm (HD0.o.trans (if_pos hc));have hee:Q4 (chk op (n:Int))=Value.iface 31 (.int .i64 (chk op (n:Int))):=if_neg hc;have HEE:=Hm hee;clear hc HD0 hee;go_wp2_with (go_at_call 262;refine HCK.o.mono ?_;rintro e w2 ⟨⟨ev,rfl,-,rfl⟩,hb2⟩;rw[HEE.o];have HB2:=Hm (Qa HB1.o hb2);clear hb2)
   go_ret;rw[HD1.o];exact Ze.same HL.o HB2.o (congrArg Ending.returned HEE.o.symm)
end
end
section
open Go.RowKit
section
attribute [local go_sem] Qje
end
end
section
open Go.RowKit Go.Sort
theorem SV.does_last (S:SV)(who id rev:Int)(op:List PT):(S.does who id rev op).2.last=S.last∧(S.does who id rev op).2.tk=S.tk:=by
 unfold SV.does
 repeat' split
 all_goals exact⟨rfl,rfl⟩
theorem SrvR.stored {w w3 w4:World}{F:Nat→Prop}{s:SP}{S:SV}{M:Int→Option (Int × Int)}(h:SrvR w F s S)(hb:Below w.heap.size w w3)(hm:Mp w4 s.m (s.k+1) M)(ho:Only (fun k=>k=s.m) w3 w4) :
  SrvR w4 F { s with k:=s.k+1 } { S with last:=M,tk:=S.tk+1 }:=by
 have h3:=h.below hb;obtain⟨ap1,ap2⟩:=h3.apart;have hns:∀ j,j=s.m→F j:=fun j e=>h.sub j (.inr (.inr e))
 refine⟨⟨h3.ok.len,h3.ok.txt,h3.ok.step⟩,h3.blk.only ho ap2,h3.rope.only ho (fun e=>h3.rp.1 (hns _ e)) (fun b hb e=>h3.rp.2 b hb (hns _ e)),h3.good,h3.doc,h3.rp,Q9 h3.own ho (fun k hk=>(ap1 k hk).2),h3.log,
  h3.ops.only (ho.mono (fun k _=>hns k)) (Grow.refl _ _),hm,by have:=h3.tk;dsimp only;omega,h3.sub,fun j hj=>Wal (h3.flt j hj) ho.size⟩
theorem Ze.fresh {w w1 w2 w3 w4:World}{F:Nat→Prop}{s s':SP}{S:SV}{who id rev:Int}{op:List PT}{c:Int}{e:Ending}(hb1:Below w.heap.size w w1)(ha:s'.a=s.a)(hm:s'.m=s.m)(ho:Only s.F w1 w2)(hg:Grow s.F s'.F w1.heap.size)
  (hS:∀ F',(∀ j,F' j→F j∨s'.F j)→(∀ j,s'.F j→F' j)→SrvR w2 F' s' (S.does who id rev op).2) (hb3:Below w2.heap.size w2 w3) (hm4:Mp w4 s'.m (s'.k+1) (Qdj (S.does who id rev op).2.last who (id,c))) (ho4:Only (fun k=>k=s'.m) w3 w4)
  (hc:c=(S.does who id rev op).1) (he:e=.returned (Q4 c)) (hsm:s.F s.m):Ze F s (S.fresh who id rev op) w e w4:=by
 obtain⟨l1,l2⟩:=S.does_last who id rev op;refine⟨{ s' with k:=s'.k+1 },ha,hm,(((Only.of_below hb1).trans ho).trans (Only.of_below hb3)).trans (ho4.mono (fun k _ e=>by rw[e,hm];exact hsm)),hg.mono hb1.size,?_,fun F' k1 k2=>?_⟩
 ·rw[he,hc];rfl
 ·have:=(hS F' k1 k2).stored hb3 hm4 ho4
  unfold SV.fresh;rw[l1] at this;rw[l2] at this;rw[hc] at this;exact this
theorem Qlx {w:World}{F:Nat→Prop}{s:SP}{S:SV}{who id rev:Int}{op:List PT}{v:Value}(h:SrvR w F s S)(hg:Zn F w)(hN:S.log.length≤1000)(hT:S.tk≤1000000000)(hwho:(Lit.int .i64 who).wf=true)(hxo:OpO F w v op)(hp:Qd op≤100000)(hn:op.length≤200000) :
  Calls prog 253 #[.pointer (some ⟨s.a,0,none⟩),.int .i64 who,.int .i64 id,.int .i64 rev,v] w (Ze F s (S.take who id rev op) w):=by
 obtain⟨z0,z1,z2⟩:=Zq h.blk;have HL:=Hm h;have HG:=Hm hg;have HX:=Hm hxo;have HW:=Hm hwho;have HP:=Hm hp;have HM:=Hm h.map;have HTK:=Hm hT;obtain⟨⟨Ax,cx,rfl,-⟩,-⟩:=hxo;clear h hg hwho hp z0 z1 hT;obtain⟨o,ho⟩:∃ o,o=S.last who:=⟨_,rfl⟩
 cases o with
 | none =>
  have HT:Hd (S.take who id rev op=S.fresh who id rev op):=⟨by unfold SV.take;rw[← ho]⟩;have HO:=Hm ho;clear ho;go_enter func253,ntmps253
  go_upto_region 9 with (first
   | (at_lookup;refine J5 rfl rfl underlying213 (J9 _) rfl rfl HW.o HM.o ?_;rw[← HO.o];unfold prV)
   | (go_at_call 292;refine (Qgc (HL.o.below (Qb (Wac _ _) _)) (HG.o.below (Qb (Wac _ _) _) (Grow.refl _ _)) hN (HX.o.below (Qb (Wac _ _) _) (Grow.refl _ _)) HP.o hn).mono ?_;rintro e w2 hd;obtain⟨s',ha,hm,ho2,hgr,rfl,hS⟩:=hd))
  have HS:=Hm hS;have HS1:=Hm (hS (fun j=>F j∨s'.F j) (fun _ e=>e) (fun _ e=>.inr e));have HA:=Hm ha;have HMM:=Hm hm;have HO2:=Hm ho2;have HGR:=Hm hgr;have HG2:Hd (Hdl w2):=⟨((HG.o.below (Qb (Wac _ _) _) (Grow.refl _ _)).only (F':=F) (ho2.mono (fun k _ e=>HL.o.sub k e)) (Grow.refl _ _)).1⟩;obtain⟨c,hc⟩:∃ c,c=(S.does who id rev op).1:=⟨_,rfl⟩;rw[← hc];have HC:=Hm hc;have hblk:=HS1.o.blk;rw[ha] at hblk;obtain⟨x0,x1,x2⟩:=Zq hblk;have xl:=hblk.lt;have HTKb:Hd (s'.k<maxLen):=⟨by have h1:=HS1.o.tk;have h2:=(S.does_last who id rev op).2;have h3:=HTK.o;unfold maxLen;omega⟩;clear hS ha hm ho2 hgr hc hblk x0 x1 z2;go_region_with (go_at_call 88;refine (X5 (Qfa _ _) (HG2.o.below (Qe (Wac _ _)))).mono ?_;rintro e w3 ⟨rfl,hb3⟩;have HB3:=Hm ((Qe (Wac _ _)).trans hb3:Below w2.heap.size w2 w3);obtain⟨w4,hrun,hM4,hO4,hz4⟩:=(HS1.o.map.below HB3.o).store (a:=id) (c:=c) underlying213 HTKb.o HW.o;have y2:=HB3.o.cell (p:=⟨s.a,2,none⟩) xl;rw[x2] at y2;have HM4:=Hm hM4;have HO4:=Hm hO4;clear hb3 hM4 hO4)
  all_goals
   go_wp2_with fail;go_ret;rw[HT.o];exact Ze.fresh (Qb (Wac _ _) _) HA.o HMM.o HO2.o HGR.o HS.o HB3.o HM4.o HO4.o HC.o rfl (.inr (.inr rfl))
 | some p =>
  obtain⟨i,k⟩:=p
  by_cases h1:id<i
  ·have HT:Hd (S.take who id rev op=(8,S)):=⟨by unfold SV.take;rw[← ho];dsimp only;rw[if_pos h1]⟩;have h1b:id≤i:=by omega
   have HO:=Hm ho;clear ho;go_enter func253,ntmps253
   go_wp2_with (at_lookup;refine J5 rfl rfl underlying213 (J9 _) rfl rfl HW.o HM.o ?_;rw[← HO.o];unfold prV)
   go_ret;rw[HT.o];exact Ze.same HL.o (Qb (Wac _ _) _) rfl
  by_cases h2:id=i
  ·subst h2;have HT:Hd (S.take who id rev op=(k,S)):=⟨by unfold SV.take;rw[← ho];dsimp only;rw[if_neg h1,if_pos rfl]⟩;have HO:=Hm ho;clear ho
   by_cases hk:k=0
   ·subst hk;go_enter func253,ntmps253
    go_wp2_with (at_lookup;refine J5 rfl rfl underlying213 (J9 _) rfl rfl HW.o HM.o ?_;rw[← HO.o];unfold prV)
    go_ret;rw[HT.o];exact Ze.same HL.o (Qb (Wac _ _) _) rfl
   ·have hkb:(k == 0)=false:=by rw[Waf];exact hk
    have HK:=Hm hk;clear hk;go_enter func253,ntmps253
    go_wp2_with (at_lookup;refine J5 rfl rfl underlying213 (J9 _) rfl rfl HW.o HM.o ?_;rw[← HO.o];unfold prV)
    go_ret;rw[HT.o];exact Ze.same HL.o (Qb (Wac _ _) _) (congrArg Ending.returned (Yq HK.o).symm)
  ·have HT:Hd (S.take who id rev op=S.fresh who id rev op):=⟨by unfold SV.take;rw[← ho];dsimp only;rw[if_neg h1,if_neg h2]⟩;have h3:¬ id≤i:=by omega
   have HO:=Hm ho;clear ho h1 h2;go_enter func253,ntmps253
   go_upto_region 9 with (first
    | (at_lookup;refine J5 rfl rfl underlying213 (J9 _) rfl rfl HW.o HM.o ?_;rw[← HO.o];unfold prV)
    | (go_at_call 292;refine (Qgc (HL.o.below (Qb (Wac _ _) _)) (HG.o.below (Qb (Wac _ _) _) (Grow.refl _ _)) hN (HX.o.below (Qb (Wac _ _) _) (Grow.refl _ _)) HP.o hn).mono ?_;rintro e w2 hd;obtain⟨s',ha,hm,ho2,hgr,rfl,hS⟩:=hd))
   have HS:=Hm hS;have HS1:=Hm (hS (fun j=>F j∨s'.F j) (fun _ e=>e) (fun _ e=>.inr e));have HA:=Hm ha;have HMM:=Hm hm;have HO2:=Hm ho2;have HGR:=Hm hgr;have HG2:Hd (Hdl w2):=⟨((HG.o.below (Qb (Wac _ _) _) (Grow.refl _ _)).only (F':=F) (ho2.mono (fun k _ e=>HL.o.sub k e)) (Grow.refl _ _)).1⟩;obtain⟨c,hc⟩:∃ c,c=(S.does who id rev op).1:=⟨_,rfl⟩;rw[← hc];have HC:=Hm hc;have hblk:=HS1.o.blk;rw[ha] at hblk;obtain⟨x0,x1,x2⟩:=Zq hblk;have xl:=hblk.lt;have HTKb:Hd (s'.k<maxLen):=⟨by have h1:=HS1.o.tk;have h2:=(S.does_last who id rev op).2;have h3:=HTK.o;unfold maxLen;omega⟩;clear hS ha hm ho2 hgr hc hblk x0 x1 z2;go_region_with (go_at_call 88;refine (X5 (Qfa _ _) (HG2.o.below (Qe (Wac _ _)))).mono ?_;rintro e w3 ⟨rfl,hb3⟩;have HB3:=Hm ((Qe (Wac _ _)).trans hb3:Below w2.heap.size w2 w3);obtain⟨w4,hrun,hM4,hO4,hz4⟩:=(HS1.o.map.below HB3.o).store (a:=id) (c:=c) underlying213 HTKb.o HW.o;have y2:=HB3.o.cell (p:=⟨s.a,2,none⟩) xl;rw[x2] at y2;have HM4:=Hm hM4;have HO4:=Hm hO4;clear hb3 hM4 hO4)
   all_goals
    go_wp2_with fail;go_ret;rw[HT.o];exact Ze.fresh (Qb (Wac _ _) _) HA.o HMM.o HO2.o HGR.o HS.o HB3.o HM4.o HO4.o HC.o rfl (.inr (.inr rfl))
end
section
open Go.RowKit Go.Sort
theorem Blk.sets {g:Nat}{t:TypeId}:∀ (vs:List Value) (o:Nat) (w:World) (cs:Array Value),Blk w g t cs→o+vs.length≤cs.size →
  ∃ cs',Blk (w.setCells g o vs) g t cs'∧cs'.size=cs.size∧cs'.toList=cs.toList.take o++vs++cs.toList.drop (o+vs.length)
 | [],o,w,cs,h,_=>⟨cs,h,rfl,by simp⟩
 | v :: vs,o,w,cs,h,hl=>by
  rw[Wan] at hl;obtain⟨cs',h1,h2,h3⟩:=Blk.sets vs (o+1) (w.setCell ⟨g,o,none⟩ v) _ (h.set_ o v) (by simp;omega);refine⟨cs',h1,by rw[h2];simp,?_⟩;rw[h3,Array.toList_setIfInBounds];have hlt:o<cs.toList.length:=by simp;omega
  rw[Wan,Wag (by simpa using hlt),List.take_set,List.getElem_set_self,List.drop_set_of_lt (by omega),show o+1+vs.length=o+(vs.length+1) from by omega,List.set_eq_of_length_le (by rw[Wbb];exact Nat.min_le_left _ _)];simp
theorem Only.sets {g:Nat}:∀ (vs:List Value) (o:Nat) (w w0:World),Only (fun j=>j=g) w0 w→Only (fun j=>j=g) w0 (w.setCells g o vs)
 | [],_,_,_,h=>h
 | v :: vs,o,_,_,h=>Only.sets vs (o+1) _ _ (h.setCell (p:=⟨g,o,none⟩) (.inl rfl) v)
theorem Quo {P:Program}(w:World)(t e ty:TypeId)(z:Value)(zs:List Value)(ht:P.underlying t=some (.slice e))(hv:∀ w,(zeroValue e).run P w=.ok z w)(hz:(Builtin.zeroCells z.cells 1).toList=zs)(h1:∀ v∈zs,v.oneCell'=true)(b o c:Nat)
  (hc:∀ j,j<zs.length→(w.cell? ⟨b,o+j,none⟩).isSome=true) (hf:∀ j,j<zs.length→w.frozen? ⟨b,o+j,none⟩=false) :
  (Builtin.clear_ #[t] ty #[.slice (some ⟨b,o,none⟩) 1 c]).run P w=.ok (.tuple #[]) (w.setCells b o zs):=by
 have hst:=run_storeCells_cells (P:=P) b o zs 0 w (by simpa using hc) (by simpa using hf) h1;simp only[Nat.add_zero] at hst;simp[Builtin.clear_,run_underlying ht,hv,hz,hst]
def zPk:Value:=.agg #[.int .i64 0,.int .i64 0,.int .i64 0,.int .i64 0,.int .i64 0,.int .i64 0,.slice none 0 0]
theorem Qup (w:World):(zeroValue 302).run prog w=.ok zPk w:=Tryz.zeroValue302 w
def Y0:List Value:=[.int .i64 0,.int .i64 0,.int .i64 0,.int .i64 0,.int .i64 0,.int .i64 0,.slice none 0 0]
theorem Quq:(Builtin.zeroCells zPk.cells 1).toList=Y0:=by
 have h:zPk.cells=Y0.toArray:=by rfl
 rw[h];unfold Builtin.zeroCells Y0;simp[List.range,List.range.loop]
theorem Qur:∀ v∈Y0,v.oneCell'=true:=by
 intro v hv;simp only[Y0,Wbk,List.not_mem_nil,or_false] at hv;rcases hv with rfl | rfl | rfl | rfl | rfl | rfl | rfl<;>rfl
theorem Blk.have_ {w:World}{g:Nat}{t:TypeId}{cs:Array Value}(h:Blk w g t cs){i:Nat}(hi:i<cs.size):(w.cell? ⟨g,i,none⟩).isSome=true:=by rw[h.cell,Array.getElem?_eq_getElem hi];rfl
theorem Qus:∃ i,prog.info? 302=some i∧i.size=7:=⟨_,rfl,rfl⟩
theorem Qut {α:Type}{L A vs D:List α}{m:Nat}(hl:L=A.take m++vs++D)(h:m≤A.length):L.take m=A.take m:=by
 rw[hl,Wah,List.take_append_of_le_length (by rw[Wbb];omega),List.take_take,Nat.min_self]
theorem Quu {α:Type}{L cur xs R:List α}{i n:Nat}(hl:L=cur.take (i*7)++xs.drop ((i+1)*7)++R)(hc:cur.take (n*7)=xs)(hx:xs.length=n*7)(hi:i<n):L.take ((n-1)*7)=xs.take (i*7)++xs.drop ((i+1)*7):=by
 have hcl:n*7≤cur.length:=by rw[← hx,← hc,Wbb];omega
 have e1:(cur.take (i*7)).length=i*7:=by rw[Wbb];omega
 have e2:xs.take (i*7)=cur.take (i*7):=by rw[← hc,List.take_take];congr 1;omega
 have e3:(xs.drop ((i+1)*7)).length=(n-1-i)*7:=by rw[War,hx];omega
 have e4:(cur.take (i*7)++xs.drop ((i+1)*7)).length=(n-1)*7:=by rw[Wad,e1,e3];omega
 rw[hl,e2,List.take_append_of_le_length (by omega),List.take_of_length_le (by omega)]
def Quv (w:World)(g n cap i:Nat)(xs:List Value)(e:Ending)(w':World):Prop :=
 e=.returned (.slice (some ⟨g,0,none⟩) (n-1) cap)∧w'.ownsRow 0 302 7 (.slice (some ⟨g,0,none⟩) (n-1) cap) (n-1) (xs.take (i*7)++xs.drop ((i+1)*7))∧Only (fun j=>j=g) w w'
theorem Qi1 {w:World}{g n cap i:Nat}{xs:List Value}(hown:w.ownsRow 0 302 7 (.slice (some ⟨g,0,none⟩) n cap) n xs)(h1:∀ u∈xs,u.oneCell'=true)(hi:i<n) :
  Calls prog 200 #[.slice (some ⟨g,0,none⟩) n cap,.int .i64 i,.int .i64 ((i:Int)+1)] w (Quv w g n cap i xs):=by
 obtain⟨hxl,h | ⟨g',cap',cur,hv,-,hb,hnc,hcm,hcs,hcur⟩⟩:=hown
 ·exact absurd h.1 (by simp)
 cases hv
 obtain⟨i0,hi0,hz1⟩:=Qus;have hB:Blk w g 302 cur:=hb;obtain⟨news,hnews⟩:∃ news,news=xs.drop ((i+1)*7):=⟨_,rfl⟩;have hlen:news.length=(n-(i+1))*7:=by rw[hnews,War,hxl];omega
 have hBd:Blk w.drew g 302 cur:=hb
 have hxget:∀ t u,xs[t]?=some u→w.drew.cell? ⟨g,t,none⟩=some u:=fun t u hu=>by
  rw[hBd.cell,← Array.getElem?_toList];have ht:=(Wai.1 hu).1;rw[← hcur,List.getElem?_take_of_lt (by omega)] at hu;exact hu
 obtain⟨A,hA,hsrc⟩:∃ A:Addr,(if cap=i+1 then some (⟨g,0,none⟩:Addr) else some ⟨g,(i+1)*7,none⟩)=some A∧Hd (∀ t u,news[t]?=some u→w.drew.cell? (A.add t)=some u):=by
  by_cases h:cap=i+1
  ·refine⟨⟨g,0,none⟩,by simp[h],⟨fun t u hu=>?_⟩⟩;have h0:news.length=0:=by rw[hlen];omega
   rw[List.length_eq_zero_iff.1 h0] at hu;simp at hu
  ·refine⟨⟨g,(i+1)*7,none⟩,by simp[h],⟨fun t u hu=>?_⟩⟩;rw[Qz];rw[hnews,List.getElem?_drop] at hu;exact hxget _ u hu
 have S1:=Hm hlen;have S2:Hd (∀ u∈news,u.oneCell'=true):=⟨fun u hu=>h1 u (by rw[hnews] at hu;exact List.mem_of_mem_drop hu)⟩;have S3:Hd (∀ t,t<news.length→(w.drew.cell? ⟨g,0+i*7+t,none⟩).isSome=true∧w.drew.frozen? ⟨g,0+i*7+t,none⟩=false):=⟨fun t ht=>⟨hBd.have_ (by omega),hBd.frozen _⟩⟩;obtain⟨W1,hW1⟩:∃ W1,W1=w.drew.setCells g (0+i*7) news:=⟨_,rfl⟩;obtain⟨cs1,hB1,hz1',hc1⟩:=Blk.sets news (0+i*7) w.drew cur hBd (by rw[hlen];omega);rw[← hW1] at hB1;have em:i+(n-(i+1))=n-1:=by omega
 have hcl:∀ ty,(Builtin.clear_ #[162] ty #[.slice (some ⟨g,(i+(n-(i+1)))*7,none⟩) (n-(i+(n-(i+1)))) (cap-(i+(n-(i+1))))]).run prog W1=.ok (.tuple #[]) (W1.setCells g ((i+(n-(i+1)))*7) Y0):=fun ty=>by
  rw[em,show n-(n-1)=1 from by omega];exact Quo W1 _ _ ty zPk Y0 underlying162 Qup Quq Qur g _ _ (fun j hj=>hB1.have_ (by have:j<7:=hj;omega)) (fun j hj=>hB1.frozen _)
 have HW1:=Hm hW1
 have HFIN:Hd ((W1.setCells g ((n-1)*7) Y0).ownsRow 0 302 7 (.slice (some ⟨g,0,none⟩) (n-1) cap) (n-1) (xs.take (i*7)++xs.drop ((i+1)*7))∧Only (fun j=>j=g) w (W1.setCells g ((n-1)*7) Y0)):=⟨by
  obtain⟨cs2,hB2,hz2,hc2⟩:=Blk.sets Y0 ((n-1)*7) W1 cs1 hB1 (by show (n-1)*7+7≤_;omega);have ho1:Only (fun j=>j=g) w W1:=by rw[hW1];exact Only.sets news (0+i*7) w.drew w (Only.refl _ w).drew
  have hO2:=Only.sets Y0 ((n-1)*7) W1 w ho1;have hz7:cs2.size=cap*7:=by omega
  refine⟨⟨?_,Or.inr ⟨g,cap,cs2,rfl,Nat.zero_le _,hB2,by omega,hcm,hz7,?_⟩⟩,hO2⟩
  ·have e3:(xs.drop ((i+1)*7)).length=(n-1-i)*7:=by rw[War,hxl];omega
   have e4:(xs.take (i*7)).length=i*7:=by rw[Wbb,hxl];omega
   rw[Wad,e3,e4];omega
  ·rw[Qut hc2 (by rw[Array.length_toList];omega)];rw[Nat.zero_add,hnews] at hc1;exact Quu hc1 hcur hxl hi⟩
 have hic:i≤cap:=by omega
 have hj0:0≤(i:Int)+1:=by omega
 have hj1:(i:Int)+1≤(n:Int):=by omega
 have EM:=Hm em;clear em hW1 hB1 hz1' hc1 hnews hlen hxget hBd hB hb hcur hcs hxl h1;go_enter func200,ntmps200
 go_wp2_with fail;go_region_law (refine step_append_room rfl (.tmp 22) (.tmp 25) 162 rfl 302 i0 7 underlying162 hi0 hz1 g 0 i cap (by simp[Act.eval,Act.put]) A (n-(i+1)) (cap-(i+1)) news (by simp[Act.eval,Act.put]) S1.out hsrc.out S2.out (by omega) S3.out ?_;rw[← HW1.o])
 go_wp2
 go_ret;rw[EM.out]
 exact⟨rfl,HFIN.o⟩
end
section
open Go.RowKit Go.Sort
def Qta (rs:List Int)(rest:U.Bs)(w:World)(e:Ending)(w':World):Prop :=
 Below w.heap.size w w'∧(rest≠[]→∃ g,e=.returned (.tuple #[.pointer none,atV g])∧QU w' g 3 (bl rs)) ∧
  (rest=[]→2000<bl rs→e=.returned (.tuple #[.pointer none,errno 12])) ∧
  (rest=[]→bl rs≤2000→∃ s:SP,e=.returned (.tuple #[.pointer (some ⟨s.a,0,none⟩),.nilIface])∧(∀ j,s.F j→w.heap.size≤j)∧w.heap.size≤s.p∧(∀ F,(∀ j,s.F j→F j)→(∀ j,F j→s.F j∨j<w.heap.size)→SrvR w' F s (SV.new (U.encs rs))))
theorem Qtb {s:U.Bs}{rs:List Int}{rest:U.Bs}(hsp:U.Sp s rs rest)(hs:s.length≤1000000)(w:World) :
  Calls prog 84 #[.string ⟨s.toArray⟩] w (Qta rs rest w):=by
 have HC:=Hm (Xv hsp w (by omega));have HALL:=Hm hsp.all;have hmm:=@run_makeMap prog;have hoff:U.off rs rs.length=bl rs:=U.off_full rs;have HOF:=Hm hoff
 by_cases hr:rest=[]
 ·subst hr;obtain rfl:s=U.encs rs:=by have:=hsp.eq;simpa using this
  have hlen:(U.encs rs).length=bl rs:=rfl;have HLEN:=Hm hlen;have HN:=fun W=>Hm (Qaj hsp W hs)
  by_cases hbl:2000<bl rs
  ·have hi:(2000:Int)<((U.encs rs).length:Int):=by show (2000:Int)<(bl rs:Int);omega
   have HBL:=Hm hbl;clear hsp hoff hlen hbl hs;go_enter func84,ntmps84
   go_wp2_with (go_at_call 133;refine HC.o.mono ?_;rintro e w1 ⟨hb1,hok,-⟩;obtain rfl:=hok rfl;have HB1:=Hm hb1;clear hb1 hok)
   go_ret2
   exact⟨Qb HB1.o _,fun h=>absurd rfl h,fun _ _=>rfl,fun _ h=>absurd HBL.o (by omega)⟩
  ·have hi:¬ ((2000:Int)<((U.encs rs).length:Int)):=by show ¬ ((2000:Int)<(bl rs:Int));omega
   have HBL:Hd (bl rs≤2000):=⟨by omega⟩;clear hsp hoff hlen hbl hs;go_enter func84,ntmps84
   go_wp2_with (first
    | (go_at_call 133;refine HC.o.mono ?_;rintro e w1 ⟨hb1,hok,-⟩;obtain rfl:=hok rfl;have HB1:=Hm (Qb hb1 (.cells #[.int .i64 (cnt rs).b,.int .i64 (cnt rs).h,.int .i64 (cnt rs).r,.int .i64 (cnt rs).l] 125));clear hb1 hok)
    | (go_at_call 134;refine (HN _).out.mono ?_;rintro e w5 ⟨hb5,-,-,h5⟩;obtain⟨p5,t5,rfl,hat5,hg5,hr5,hp5,ht5⟩:=h5 rfl (by have:=HBL.o;omega);have HB5:=Hm (Qa HB1.o hb5);have HAT5:=Hm hat5;have HG5:=Hm hg5;have HE5:=Hm hr5;have HP5:=Hm (Wao (Wbf HB1.o.size hp5) (fun i hi=>Wbf HB1.o.size (ht5 i hi)));clear hb5 h5 hat5 hg5 hr5 hp5 ht5))
   go_ret2;have hz5:=HB5.o.size;have hx:Below w5.heap.size w5 ((w5.alloc (.map #[] 0)).alloc (.cells #[.pointer (some ⟨p5,0,none⟩),.slice none 0 0,.map (some w5.heap.size)] 216)):=Qb (Qb (Wac _ _) _) _;have hlp:=HAT5.o.blk.lt
   have hF:∀ j,(SP.mk (w5.heap.size+1) p5 t5 (.slice none 0 0) w5.heap.size 0 []).F j→j=w5.heap.size∨j=w5.heap.size+1:=by
    rintro j (e | e | e)
    ·exact .inr e
    ·cases e
    ·exact .inl e
   refine⟨HB5.o.trans (hx.mono hz5),fun h=>absurd rfl h,fun _ h=>absurd h (by have:=HBL.o;omega),fun _ _=>⟨⟨w5.heap.size+1,p5,t5,.slice none 0 0,w5.heap.size,0,[]⟩,?_,fun j hj=>by rcases hF j hj with e | e<;>omega,HP5.o.1,?_⟩⟩
   ·simp
   ·intro F hF1 hF2;have hF:∀ j,F j→j=w5.heap.size∨j=w5.heap.size+1∨j<w.heap.size:=fun j hj=>(hF2 j hj).elim (fun e=>(hF j e).elim .inl (fun e=>.inr (.inl e))) (fun e=>.inr (.inr e))
    have hp1:=HP5.o.1;have hp2:=HP5.o.2;refine⟨SVok.new HALL.o HBL.o,?_,HAT5.o.below hx,HG5.o,by rw[HE5.o];rfl,⟨fun e=>by rcases hF _ e with e | e | e<;>(dsimp only at e;omega),fun b hb e=>by have:=HAT5.o.tree.lt b hb;have:=hp2 b hb;rcases hF _ e with e | e | e<;>omega⟩,World.ownsRow_nil _ _ _ _,rfl,fun x hx=>by simp at hx,?_,Wak _,hF1,fun j hj=>?_⟩
    ·have:=Blk.new (w5.alloc (.map #[] 0)) 216 #[.pointer (some ⟨p5,0,none⟩),.slice none 0 0,.map (some w5.heap.size)]
     rw[Waq] at this;exact this
    ·exact (Mp.new w5).below (Qb (Wac _ _) _)
    ·rcases hF j hj with e | e | e<;>(simp;omega)
 ·have HRR:=Hm hr;clear hsp hoff hs hr;go_enter func84,ntmps84
  go_wp2_with (go_at_call 133;refine HC.o.mono ?_;rintro e w1 ⟨hb1,-,hok⟩;obtain⟨g,rfl,hg⟩:=hok HRR.o;have HB1:=Hm hb1;have HG:=Hm hg;clear hb1 hok hg)
  go_ret2;refine⟨Qb HB1.o _,fun _=>⟨g,rfl,?_⟩,fun h=>absurd h HRR.o,fun h=>absurd h HRR.o⟩;rw[← HOF.o];exact HG.o.below (Qb (Wac _ _) _)
end
end Go.Proofs.YtckkgdmkfbkaoaaGreatDoor
