/- Texts of the proof. -/
import Derived.Test.YtdgdajnbkfmijaaGreatDoorM43
import Derived.Test.YtdgdajnbkfmijaaGreatDoorM33
import Derived.Lib.SliceRun
import Derived.Deep.CutBlock
import Derived.Deep.CutRange
import Derived.Lib.ConvBytes
import Derived.Lib.QuietBelow
import Derived.Lib.SlicesDelete
import Derived.Test.YtdgdajnbkfmijaaGreatDoorM19
import Derived.Test.YtdgdajnbkfmijaaGreatDoorM13
import Derived.Test.YtdgdajnbkfmijaaGreatDoorM41
import Derived.Test.YtdgdajnbkfmijaaGreatDoorM39
namespace Go.Proofs.YtdgdajnbkfmijaaGreatDoor
open Go.Proofs.Tryz
set_option maxRecDepth 100000
set_option maxHeartbeats 32000000
section
open Go.RowKit
def ecv (x:EN × Value):List Value:=[.int .i64 x.1.who,.int .i64 x.1.id,x.2]
def ens (L:List (EN × Value)):List Value:=L.flatMap ecv
theorem Qje (a b:List (EN × Value)):ens (a++b)=ens a++ens b:=by unfold ens;rw[List.flatMap_append]
theorem Qjf (x:EN × Value):ens [x]=ecv x:=by simp[ens]
theorem Qjg (L:List (EN × Value)):(ens L).length=L.length*3:=by
 induction L with
 | nil=>rfl
 | cons x L ih =>
  have e:ens (x :: L)=ecv x++ens L:=by simp[ens]
  rw[e,Wad,ih];simp[ecv]
  omega
theorem Qbc {L:List (EN × Value)}{k:Nat}(hk:k<L.length):(ens L)[k*3]?=some (.int .i64 L[k].1.who)∧(ens L)[k*3+1]?=some (.int .i64 L[k].1.id)∧(ens L)[k*3+2]?=some L[k].2:=by
 induction L generalizing k with
 | nil=>simp at hk
 | cons x L ih =>
  have e:ens (x :: L)=ecv x++ens L:=by simp[ens]
  rw[e]
  cases k with
  | zero=>simp[ecv]
  | succ k =>
   obtain⟨h1,h2,h3⟩:=ih (k:=k) (by simpa using hk);have hl:(ecv x).length=3:=rfl;simp only[List.getElem_cons_succ];refine⟨?_,?_,?_⟩
   ·rw[Way (by omega),hl,← h1];congr 1;omega
   ·rw[Way (by omega),hl,← h2];congr 1;omega
   ·rw[Way (by omega),hl,← h3];congr 1;omega
theorem Qd2 (L:List (EN × Value))(k:Nat):ens (L.drop k)=(ens L).drop (k*3):=by
 induction L generalizing k with
 | nil=>simp[ens]
 | cons x L ih =>
  cases k with
  | zero=>simp
  | succ k =>
   have e:ens (x :: L)=Value.int .i64 x.1.who :: Value.int .i64 x.1.id :: x.2 :: ens L:=by simp[ens,ecv]
   rw[List.drop_succ_cons,ih,e,show (k+1)*3=k*3+1+1+1 from by omega];simp only[List.drop_succ_cons]
def OpO (F:Nat→Prop)(w:World)(v:Value)(l:List PT):Prop:=Sl w 3 v l.length (opv l)∧∀ ad n c,v=.slice (some ad) n c→0<n→¬ F ad.block
def EnO (F:Nat→Prop)(w:World)(L:List (EN × Value)):Prop:=∀ x∈L,OpO F w x.2 x.1.op
section
variable {F F':Nat→Prop}{w w':World}{v:Value}{l:List PT}
def Grow (F F':Nat→Prop)(n:Nat):Prop:=∀ k,F' k→F k∨n≤k
theorem Grow.refl (F:Nat→Prop)(n:Nat):Grow F F n:=fun _ h=>.inl h
theorem Grow.trans {F F' F'':Nat→Prop}{n m:Nat}(h:Grow F F' n)(k:Grow F' F'' m)(hm:n≤m):Grow F F'' n:=fun i hi=>(k i hi).elim (h i) (fun e=>.inr (Wbf hm e))
theorem Grow.mono {F F':Nat→Prop}{n m:Nat}(h:Grow F F' m)(hm:n≤m):Grow F F' n:=fun i hi=>(h i hi).imp_right (Wbf hm)
theorem OpO.sl (h:OpO F w v l):Sl w 3 v l.length (opv l):=h.1
theorem OpO.only (h:OpO F w v l)(ho:Only F w w')(hF:Grow F F' w.heap.size):OpO F' w' v l:=by
 refine⟨h.1.only ho (fun A c e hn=>h.2 A _ c e hn),fun ad n c e hn hF'=>?_⟩;rcases hF _ hF' with h1 | h1
 ·exact h.2 ad n c e hn h1
 ·obtain⟨A,c',e',-,-,-,-,h5⟩:=h.1;rw[e'] at e
  cases e
  obtain⟨ad',e2,hb,-⟩:=h5 hn
  cases e2
  omega
theorem OpO.below (h:OpO F w v l)(hb:Below w.heap.size w w')(hF:Grow F F' w.heap.size):OpO F' w' v l:=h.only (Only.of_below hb) hF
theorem OpO.sub (h:OpO F w v l)(hF:∀ k,F' k→F k):OpO F' w v l:=⟨h.1,fun ad n c e hn hk=>h.2 ad n c e hn (hF _ hk)⟩
theorem OpO.frs {B:Nat}(h:Sl w 3 v l.length (opv l))(hf:Frs B v)(hF:∀ k,F k→k<B):OpO F w v l:=⟨h,fun ad n c e _ hk=>by have:=hf ad n c e;have:=hF _ hk;omega⟩
theorem OpO.nil (F:Nat→Prop)(w:World):OpO F w (.slice none 0 0) []:=⟨Sl.nil w 3,fun ad n c e=>by cases e⟩
theorem EnO.only {L:List (EN × Value)}(h:EnO F w L)(ho:Only F w w')(hF:Grow F F' w.heap.size):EnO F' w' L:=fun x hx=>(h x hx).only ho hF
theorem Qtb (l:List PT):∀ u∈opv l,u.oneCell'=true:=by
 intro u hu;unfold opv at hu;obtain⟨p,-,hp⟩:=List.mem_flatMap.1 hu;simp only[PT.cells,Wbk,List.not_mem_nil,or_false] at hp;rcases hp with rfl | rfl | rfl<;>rfl
end
theorem Qjh {w:World}{t:TypeId}{size:Nat}:(w.alloc (.cells #[] t)).ownsRow w.heap.size t size (.slice (some ⟨w.heap.size,0,none⟩) 0 0) 0 [] :=
 ⟨by simp,.inr ⟨w.heap.size,0,#[],rfl,Wak _,Wbc w _,Wak _,by unfold maxLen;omega,by simp,by simp⟩⟩
theorem Qji (w:World)(A:Option Addr)(n c:Nat):(binOp .eql 36 (.slice A n c) (.slice none 0 0)).run prog w=.ok (.bool A.isNone) w:=Lib.run_eql_slice_nil w _ _ A n c 0 0 underlying36
theorem Qd3 {l:List PT}{v:Value}{n:Nat}{w:World}(hsl:Sl w 3 v n (opv l))(hn:n≤1000000) :
  Calls prog 57 #[v] w fun e w'=>(∃ v',e=.returned v'∧Sl w' 3 v' n (opv l)∧Frs w.heap.size v')∧Below w.heap.size w w':=by
 have HSL:=Hm hsl;obtain⟨A,c,rfl,-,-,-,hA,h5⟩:=hsl
 cases A with
 | none =>
  obtain rfl:=hA rfl
  obtain rfl:n=0:=by
   rcases Nat.eq_zero_or_pos n with h | h
   ·exact h
   ·obtain⟨ad,e,-⟩:=h5 h;cases e
  clear hA h5;have heq:=Qji;go_enter func57,ntmps57
  go_wp2_with fail;go_ret
  exact⟨⟨_,rfl,HSL.o,Frs.nil _⟩,Wac _ _⟩
 | some ad =>
  clear hA h5;have heq:=Qji;go_enter func57,ntmps57
  go_wp2_with (at_builtin;refine Jw Q9 (opv l) (.slice (some ad) n c) Qjh (HSL.o.below (Qa (Wac _ _) _)) rfl rfl rfl rfl (Qtb l) (by unfold maxLen;omega) (by omega) (by simp) ?_;intro v9 w9 hown9 hbel9 hgr9 hnew9;rw[Nat.zero_add,Wbn] at hown9;have HO9:=Hm hown9;obtain⟨A9,k9,rfl⟩:=Qg hown9;have HB9:=Hm hbel9;clear hown9 hbel9 hgr9 hnew9)
  go_ret
  exact⟨⟨_,rfl,Sl.of_own HO9.o,Frs.of_own HO9.o⟩,(Qa (Wac _ _) _).trans HB9.o⟩
theorem Qbd:El prog 54 120 3 40:=El.mk' underlying54 (by kernel_rfl) (by decide)
theorem Qtc {w:World}{F:Nat→Prop}{L:List (EN × Value)}(h:EnO F w L):∀ u∈ens L,u.oneCell'=true:=by
 intro u hu;unfold ens at hu;obtain⟨x,hx,hp⟩:=List.mem_flatMap.1 hu;obtain⟨A,c,e,-⟩:=(h x hx).1;simp only[ecv,Wbk,List.not_mem_nil,or_false] at hp;rcases hp with rfl | rfl | rfl
 ·rfl
 ·rfl
 ·rw[e];rfl
end
section
open Go.RowKit
structure ShV (w:World)(u:Int)(R:List Int)(t:U.Bs)(vh vr:Value):Prop where
 k1:u=1→t=U.encs R∧vh=.slice none 0 0∧vr=.slice none 0 0
 k2:u=2→t=[]∧Sl w 1 vh (U.hvs R).length (Qv (U.hvs R))∧vr=.slice none 0 0
 k3:u=3→t=[]∧vh=.slice none 0 0∧Sl w 1 vr R.length (Qs R)
theorem ShV.below {w w':World}{u:Int}{R:List Int}{t:U.Bs}{vh vr:Value}(h:ShV w u R t vh vr)(hb:Below w.heap.size w w'):ShV w' u R t vh vr :=
 ⟨h.k1,fun e=>⟨(h.k2 e).1,(h.k2 e).2.1.below hb,(h.k2 e).2.2⟩,fun e=>⟨(h.k3 e).1,(h.k3 e).2.1,(h.k3 e).2.2.below hb⟩⟩
structure ShS (w:World)(f:Nat)(u:Int)(R:List Int):Prop where
 all:U.AllR R
 u1:1≤u∧u≤3
 sz:bl R≤8000
 ex:∃ t vh vr,Blk w f 196 #[.int .i64 u,.string ⟨t.toArray⟩,vh,vr]∧ShV w u R t vh vr
theorem ShS.below {w w':World}{f:Nat}{u:Int}{R:List Int}(h:ShS w f u R)(hb:Below w.heap.size w w'):ShS w' f u R:=by
 obtain⟨t,vh,vr,hk,hv⟩:=h.ex
 exact⟨h.all,h.u1,h.sz,t,vh,vr,hk.below hb hk.lt,hv.below hb⟩
structure ShF (B:Nat)(w:World)(f:Nat)(u:Int)(R:List Int):Prop where
 all:U.AllR R
 u1:1≤u∧u≤3
 sz:bl R≤8000
 ex:∃ t vh vr,Blk w f 196 #[.int .i64 u,.string ⟨t.toArray⟩,vh,vr]∧ShV w u R t vh vr∧Frs B vh∧Frs B vr
theorem ShF.less {B B':Nat}{w:World}{f:Nat}{u:Int}{R:List Int}(h:ShF B w f u R)(hB:B'≤B):ShF B' w f u R:=by
 obtain⟨t,vh,vr,a,b,c,d⟩:=h.ex
 exact⟨h.all,h.u1,h.sz,t,vh,vr,a,b,c.mono hB,d.mono hB⟩
theorem Qk {w:World}{g:Nat}{ty:TypeId}{a b c d:Value}(h:Blk w g ty #[a,b,c,d]):w.cell? ⟨g,0,none⟩=some a∧w.cell? ⟨g,1,none⟩=some b∧w.cell? ⟨g,2,none⟩=some c∧w.cell? ⟨g,3,none⟩=some d:=by
 have z0:=h.cell 0;have z1:=h.cell 1;have z2:=h.cell 2;have z3:=h.cell 3;simp only[Wab,Waa,Wae] at z0 z1 z2 z3
 exact⟨z0,z1,z2,z3⟩
theorem Qch {w:World}{f:Nat}{u:Int}{R:List Int}(h:ShS w f u R):Calls prog 73 #[.pointer (some ⟨f,0,none⟩)] w fun e w'=>e=.returned (.int .i64 u)∧w'=w:=by
 obtain⟨t,vh,vr,hk,hv⟩:=h.ex;obtain⟨z0,z1,z2,z3⟩:=Qk hk;clear hk hv h;go_enter func73,ntmps73
 go_wp2_with fail;go_ret
 exact⟨rfl,rfl⟩
theorem Qaj {w:World}{f:Nat}{u:Int}{R:List Int}(h:ShS w f u R):Calls prog 66 #[.pointer (some ⟨f,0,none⟩)] w fun e w'=>e=.returned (.int .i64 ((cnt R).of u))∧Below w.heap.size w w':=by
 obtain⟨t,vh,vr,hk,hv⟩:=h.ex;obtain⟨z0,z1,z2,z3⟩:=Qk hk;have hall:=h.all;have hsz:=h.sz
 have key:∃ (th tr:Nat) (Ah Ar:Option Addr) (ch cr:Nat),vh=.slice Ah th ch∧vr=.slice Ar tr cr∧(t.length:Int)+th+tr=(cnt R).of u∧t.length≤100000∧th≤100000∧tr≤100000:=by
  have h3:u=1∨u=2∨u=3:=by have:=h.u1;omega
  have hb:=QI R;have hh:=U.hvs_len_le R;have hbe:(U.encs R).length=bl R:=rfl;rcases h3 with rfl | rfl | rfl
  ·obtain⟨rfl,rfl,rfl⟩:=hv.k1 rfl
   exact⟨0,0,none,none,0,0,rfl,rfl,by rw[ZA];omega,by omega,by omega,by omega⟩
  ·obtain⟨rfl,⟨A,c,rfl,-⟩,rfl⟩:=hv.k2 rfl;have hn:(cnt R).of 2=((U.hvs R).length:Nat):=by rw[Qdi hall];rfl
   exact⟨_,0,A,none,c,0,rfl,rfl,by rw[hn];simp,by simp,by omega,by omega⟩
  ·obtain⟨rfl,rfl,A,c,rfl,-⟩:=hv.k3 rfl
   exact⟨0,_,none,A,0,c,rfl,rfl,by rw[Qd0];simp,by simp,by omega,by omega⟩
 obtain⟨th,tr,Ah,Ar,ch,cr,rfl,rfl,hsum,b1,b2,b3⟩:=key;have HSUM:=Hm hsum;have hw1:IntKind.i64.wrap ((t.length:Int)+th)=(t.length:Int)+th:=by rw[Waw]<;>omega
 have hw2:IntKind.i64.wrap ((t.length:Int)+th+tr)=(t.length:Int)+th+tr:=by rw[Waw]<;>omega
 clear hk hv h hsum hall hsz;go_enter func66,ntmps66
 go_wp2_with fail;go_quiet (fail)
 go_wp2_with fail;go_ret
 exact⟨by rw[← HSUM.o];rfl,Qh nq (Wac _ _)⟩
theorem Xk {w:World}{f:Nat}{u:Int}{R:List Int}{t:U.Bs}{vh vr:Value}(hall:U.AllR R)(hu:1≤u∧u≤3)(hsz:bl R≤1000000)(hk:Blk w f 196 #[.int .i64 u,.string ⟨t.toArray⟩,vh,vr])(hv:ShV w u R t vh vr):Calls prog 67 #[.pointer (some ⟨f,0,none⟩)] w fun e w'=>e=.returned (.string ⟨(U.encs R).toArray⟩)∧Below w.heap.size w w':=by
 obtain⟨z0,z1,z2,z3⟩:=Qk hk;have HALL:=Hm hall;have hb:=QI R;have hh:=U.hvs_len_le R;have h3:u=1∨u=2∨u=3:=by omega
 rcases h3 with rfl | rfl | rfl
 ·obtain⟨rfl,rfl,rfl⟩:=hv.k1 rfl;clear hk hv;go_enter func67,ntmps67
  go_wp2_with fail;go_ret
  exact⟨rfl,Wac _ _⟩
 ·obtain⟨rfl,hs,rfl⟩:=hv.k2 rfl;have HT:=Hm (Qnx (w:=w) (l:=U.hvs R) (pre:=R) (rest:=[]) ⟨hall,by rw[Wam],trivial⟩ (U.hvs_in hall) hs (by omega));obtain⟨A,c,rfl,-⟩:=hs;clear hk hv;go_enter func67,ntmps67
  go_wp2_with fail;refine HT.o.mono ?_;rintro e w1 ⟨hb1,hok,-⟩;obtain rfl:=hok rfl;have HB1:=Hm hb1;clear hb1 hok;go_wp2_with fail;go_ret
  exact⟨rfl,HB1.o⟩
 ·obtain⟨rfl,rfl,hs⟩:=hv.k3 rfl;have HT:=Hm (Qp6 (w:=w) (l:=R) (pre:=R) (rest:=[]) ⟨hall,by rw[Wam],fun _ _ e=>by cases e⟩ hs (by omega));obtain⟨A,c,rfl,-⟩:=hs;clear hk hv;go_enter func67,ntmps67
  go_wp2_with fail;refine HT.o.mono ?_;rintro e w1 ⟨hb1,hok,-⟩;obtain rfl:=hok rfl;have HB1:=Hm hb1;clear hb1 hok;go_wp2_with fail;go_ret
  exact⟨rfl,HB1.o⟩
theorem Qci {w:World}{f:Nat}{u:Int}{R:List Int}(h:ShS w f u R):Calls prog 67 #[.pointer (some ⟨f,0,none⟩)] w fun e w'=>e=.returned (.string ⟨(U.encs R).toArray⟩)∧Below w.heap.size w w':=by
 obtain⟨t,vh,vr,hk,hv⟩:=h.ex;exact Xk h.all h.u1 (by have:=h.sz;omega) hk hv
end
section
open Go.RowKit
theorem ShV.frs {w w':World}{S:Nat→Prop}{B:Nat}{u:Int}{R:List Int}{t:U.Bs}{vh vr:Value}(h:ShV w u R t vh vr)(hh:Frs B vh)(hr:Frs B vr)(ho:Only S w w')(hs:∀ k,S k→k<B):ShV w' u R t vh vr :=
 ⟨h.k1,fun e=>⟨(h.k2 e).1,(h.k2 e).2.1.frs hh ho hs,(h.k2 e).2.2⟩,fun e=>⟨(h.k3 e).1,(h.k3 e).2.1,(h.k3 e).2.2.frs hr ho hs⟩⟩
theorem Qcp {R:List Int}{l:List PT}{u:Int}(hu:1≤u∧u≤3)(hg:∀ p∈l,p.Good)(hw:was l=(cnt R).of u)(hk:(tnF R u 1 Cn.zero 0 l).2=0):comes (tnF R u 1 Cn.zero 0 l).1≤bl R+Qc l:=by
 have z:((cnt ([]:List Int)).of u)=0:=by rw[Za,ZP]
 obtain⟨⟨X,hX⟩,b,-⟩:=Qjd (R:=R) (P:=[]) (Q:=R) hu rfl hg hw (by rw[z,Za];exact hk);rw[z,Za] at hX b;have h1:=hX.bounds.2;have h2:=hX.sizes.2;omega
def Jt (f:Nat)(u:Int)(R:List Int)(l:List PT)(w:World)(e:Ending)(w':World):Prop :=
 Only (fun k=>k=f) w w'∧(chk l ((cnt R).of u)≠0→e=.returned (errno (chk l ((cnt R).of u)))∧Below w.heap.size w w') ∧
  (chk l ((cnt R).of u)=0→((tnF R u 1 Cn.zero 0 l).2=10∧e=.returned (errno 10)∧Below w.heap.size w w') ∨
   ((tnF R u 1 Cn.zero 0 l).2=0∧∃ X,OpR (tnF R u 1 Cn.zero 0 l).1 X R ∧
    ((8000<bl (rap X R)∧e=.returned (errno 12)∧Below w.heap.size w w')∨(bl (rap X R)≤8000∧e=.returned .nilIface∧ShF w.heap.size w' f u (rap X R)))))
theorem Qo2 {R:List Int}{l:List PT}{u:Int}{v2:Value}{n2 f:Nat}{w:World}(hs:ShS w f u R)(hg:Hdl w)(hs2:Sl w 3 v2 n2 (opv l))(hp:∀ p∈l,p.put.length≤35184372087808)(hc:chk l ((cnt R).of u)≠0) :
  Calls prog 76 #[.pointer (some ⟨f,0,none⟩),v2] w (Jt f u R l w):=by
 have HLN:=Hm (Qaj hs);have HS2:=Hm hs2;have HG:=Hm hg;have HP:=Hm hp;have HC:=Hm hc;obtain⟨A,c,rfl,-⟩:=hs2;have h0:=Zo R u;have h1:=of_le (rs:=R) (n:=bl R) (QI R) u;have h2:=hs.sz;have HM:Hd (-9223372036854775808≤(cnt R).of u∧(cnt R).of u≤9223372036854775807):=⟨by omega⟩;clear hs hg hp hc h0 h1 h2;go_enter func76,ntmps76
 go_wp2_with (first
  | (go_at_call 66;refine HLN.o.mono ?_;rintro e w1 ⟨rfl,hb1⟩;have HB1:=Hm hb1;clear hb1)
  | (go_at_call 92;refine (Zr (HG.o.below HB1.o) (HS2.o.below HB1.o) HP.o HM.o).mono ?_;rintro e w2 ⟨⟨ev,rfl,-,hev⟩,hb2⟩;rw[show QC (chk l ((cnt R).of u))=errno (chk l ((cnt R).of u)) from if_neg HC.o] at hev;obtain rfl:=hev;unfold errno;have HB2:=Hm (Qb HB1.o hb2);clear hb2))
 go_ret
 exact⟨Only.of_below HB2.o,fun _=>⟨rfl,HB2.o⟩,fun h=>absurd h HC.o⟩
end
section
open Go.RowKit
section
attribute [local go_sem] Cn.v_eq
def Qtn (f:Nat)(u:Int)(rs:List Int)(rest:U.Bs)(w:World)(e:Ending)(w':World):Prop :=
 Only (fun k=>k=f) w w'∧(rest≠[]→∃ g,e=.returned (atV g)∧QV w' g 3 (bl rs))∧(rest=[]→8000<bl rs→e=.returned (errno 12)) ∧
  (rest=[]→bl rs≤8000→e=.returned .nilIface∧ShF w.heap.size w' f u rs)
theorem Qto {s:U.Bs}{rs:List Int}{rest:U.Bs}(hsp:U.Sp s rs rest){w:World}{f:Nat}{u:Int}(hu:1≤u∧u≤3)(hs:s.length≤1000000)(hk:Blk w f 196 #[.int .i64 u,.string ⟨#[]⟩,.slice none 0 0,.slice none 0 0]) :
  Calls prog 103 #[.pointer (some ⟨f,0,none⟩),.string ⟨s.toArray⟩] w (Qtn f u rs rest w):=by
 have HK:=Hm hk;have HC:=Hm (Xw hsp w (by omega));have HALL:=Hm hsp.all;have hoff:U.off rs rs.length=bl rs:=U.off_full rs
 by_cases hr:rest=[]
 ·subst hr;obtain rfl:s=U.encs rs:=by have:=hsp.eq;simpa using this
  have hlen:(U.encs rs).length=bl rs:=rfl;rw[hlen] at hs;have HH:=fun w1=>Hm (Qsa hsp w1 (by show bl rs≤_;omega))
  have HRN:=fun w1=>Hm (Qr9 hsp w1 (by show bl rs≤_;omega))
  have HLEN:=Hm hlen
  by_cases hbl:8000<bl rs
  ·have hi:(8000:Int)<((U.encs rs).length:Int):=by show (8000:Int)<(bl rs:Int);omega
   have HBL:=Hm hbl;clear hsp hoff hk hlen hbl hs;go_enter func103,ntmps103
   go_wp2_with (go_at_call 21;refine HC.o.mono ?_;rintro e w1 ⟨hb1,hok,-⟩;obtain rfl:=hok rfl;have HB1:=Hm hb1;clear hb1 hok)
   go_ret
   exact⟨Only.of_below (Qa HB1.o _) |>.mono (fun _ _ h=>h),fun h=>absurd rfl h,fun _ _=>rfl,fun _ h=>absurd HBL.o (by omega)⟩
  ·have hi:¬ ((8000:Int)<((U.encs rs).length:Int)):=by show ¬ ((8000:Int)<(bl rs:Int));omega
   have HBL:Hd (bl rs≤8000):=⟨by omega⟩;clear hsp hoff hk hlen hbl hs;have h3:u=1∨u=2∨u=3:=by omega
   rcases h3 with rfl | rfl | rfl
   ·go_enter func103,ntmps103
    go_wp2_with (go_at_call 21;refine HC.o.mono ?_;rintro e w1 ⟨hb1,hok,-⟩;obtain rfl:=hok rfl;have hx1:=Qa hb1 (.cells #[.int .i64 (cnt rs).b,.int .i64 (cnt rs).h,.int .i64 (cnt rs).r,.int .i64 (cnt rs).l] 63);have HB1:=Hm hx1;have hk1:=HK.o.below hx1 HK.o.lt;have HK1:=Hm hk1;obtain⟨z0,z1,z2,z3⟩:=Qk hk1;have zf:=hk1.frozen;have zl:=hk1.lt;clear hb1 hok hx1 hk1)
    go_ret;refine⟨(Only.of_below HB1.o:Only (fun k=>k=f) _ _).setCell (.inl rfl) _,fun h=>absurd rfl h,fun _ h=>absurd HBL.o (by omega),fun _ _=>⟨rfl,⟨HALL.o,by decide,HBL.o,U.encs rs,_,_,HK1.o.set_ 1 (.string ⟨(U.encs rs).toArray⟩),⟨fun _=>⟨rfl,rfl,rfl⟩,fun h=>by omega,fun h=>by omega⟩,Frs.nil _,Frs.nil _⟩⟩⟩
   ·go_enter func103,ntmps103
    go_wp2_with (first | (go_at_call 21;refine HC.o.mono ?_;rintro e w1 ⟨hb1,hok,-⟩;obtain rfl:=hok rfl;have hx1:=Qa hb1 (.cells #[.int .i64 (cnt rs).b,.int .i64 (cnt rs).h,.int .i64 (cnt rs).r,.int .i64 (cnt rs).l] 63);have HB1:=Hm hx1;have hk1:=HK.o.below hx1 HK.o.lt;have HK1:=Hm hk1;obtain⟨z0,z1,z2,z3⟩:=Qk hk1;have zf:=hk1.frozen;have zl:=hk1.lt;clear hb1 hok hx1 hk1) | (go_at_call 111;refine (HH _).out.mono ?_;rintro e w2 ⟨hb2,hok,-⟩;obtain⟨v,rfl,hsl,hfr⟩:=hok rfl;obtain⟨A,c,rfl⟩:∃ A c,v=.slice A (U.hvs rs).length c:=(by obtain⟨A,c,e,-⟩:=hsl;exact⟨A,c,e⟩);have HSL:=Hm hsl;have HFR:=Hm hfr;have HB2:=Hm (Qb HB1.o hb2);have hk2:=HK1.o.below hb2 HK1.o.lt;have HK2:=Hm hk2;clear z0 z1 z2 z3 zf zl;obtain⟨z0,z1,z2,z3⟩:=Qk hk2;have zf:=hk2.frozen;have zl:=hk2.lt;clear hb2 hok hsl hfr hk2))
    go_ret;have hO:Only (fun k=>k=f) w w2:=Only.of_below HB2.o;have hS:=HSL.o.frs (S:=fun k=>k=f) HFR.o ((Only.refl (fun k=>k=f) w2).setCell (p:=⟨f,2,none⟩) (.inl rfl) (.slice A (U.hvs rs).length c)) (fun k e=>by subst e;exact Wal HK.o.lt HB1.o.size)
    exact⟨hO.setCell (.inl rfl) _,fun h=>absurd rfl h,fun _ h=>absurd HBL.o (by omega),fun _ _=>⟨rfl,⟨HALL.o,by decide,HBL.o,[],_,_,HK2.o.set_ 2 _,⟨fun h=>by omega,fun _=>⟨rfl,hS,rfl⟩,fun h=>by omega⟩,HFR.o.mono HB1.o.size,Frs.nil _⟩⟩⟩
   ·go_enter func103,ntmps103
    go_wp2_with (first | (go_at_call 21;refine HC.o.mono ?_;rintro e w1 ⟨hb1,hok,-⟩;obtain rfl:=hok rfl;have hx1:=Qa hb1 (.cells #[.int .i64 (cnt rs).b,.int .i64 (cnt rs).h,.int .i64 (cnt rs).r,.int .i64 (cnt rs).l] 63);have HB1:=Hm hx1;have hk1:=HK.o.below hx1 HK.o.lt;have HK1:=Hm hk1;obtain⟨z0,z1,z2,z3⟩:=Qk hk1;have zf:=hk1.frozen;have zl:=hk1.lt;clear hb1 hok hx1 hk1) | (go_at_call 115;refine (HRN _).out.mono ?_;rintro e w2 ⟨hb2,hok,-⟩;obtain⟨v,rfl,hsl,hfr⟩:=hok rfl;obtain⟨A,c,rfl⟩:∃ A c,v=.slice A rs.length c:=(by obtain⟨A,c,e,-⟩:=hsl;exact⟨A,c,e⟩);have HSL:=Hm hsl;have HFR:=Hm hfr;have HB2:=Hm (Qb HB1.o hb2);have hk2:=HK1.o.below hb2 HK1.o.lt;have HK2:=Hm hk2;clear z0 z1 z2 z3 zf zl;obtain⟨z0,z1,z2,z3⟩:=Qk hk2;have zf:=hk2.frozen;have zl:=hk2.lt;clear hb2 hok hsl hfr hk2))
    go_ret;have hO:Only (fun k=>k=f) w w2:=Only.of_below HB2.o;have hS:=HSL.o.frs (S:=fun k=>k=f) HFR.o ((Only.refl (fun k=>k=f) w2).setCell (p:=⟨f,3,none⟩) (.inl rfl) (.slice A rs.length c)) (fun k e=>by subst e;exact Wal HK.o.lt HB1.o.size)
    exact⟨hO.setCell (.inl rfl) _,fun h=>absurd rfl h,fun _ h=>absurd HBL.o (by omega),fun _ _=>⟨rfl,⟨HALL.o,by decide,HBL.o,[],_,_,HK2.o.set_ 3 _,⟨fun h=>by omega,fun h=>by omega,fun _=>⟨rfl,rfl,hS⟩⟩,Frs.nil _,HFR.o.mono HB1.o.size⟩⟩⟩
 ·have HRR:=Hm hr;have HOF:=Hm hoff;clear hsp hoff hk hs hr;go_enter func103,ntmps103
  go_wp2_with (go_at_call 21;refine HC.o.mono ?_;rintro e w1 ⟨hb1,-,hok⟩;obtain⟨g,rfl,hg⟩:=hok HRR.o;have HB1:=Hm hb1;have HG:=Hm hg;clear hb1 hok hg)
  go_ret;refine⟨Only.of_below (Qa HB1.o _),fun _=>⟨g,rfl,?_⟩,fun h=>absurd h HRR.o,fun h=>absurd h HRR.o⟩;rw[← HOF.o];exact HG.o.below (Qa (Wac _ _) _)
end
end
section
open Go.RowKit
def Qnt (u:Int)(rs:List Int)(rest:U.Bs)(w:World)(e:Ending)(w':World):Prop :=
 Below w.heap.size w w'∧(¬ (1≤u∧u≤3)→e=.returned (.tuple #[.pointer none,errno 1])) ∧
  (1≤u∧u≤3→rest≠[]→∃ g,e=.returned (.tuple #[.pointer none,atV g])∧QV w' g 3 (bl rs)) ∧
  (1≤u∧u≤3→rest=[]→8000<bl rs→e=.returned (.tuple #[.pointer none,errno 12])) ∧
  (1≤u∧u≤3→rest=[]→bl rs≤8000→∃ f,e=.returned (.tuple #[.pointer (some ⟨f,0,none⟩),.nilIface])∧w.heap.size≤f∧ShF (f+1) w' f u rs)
theorem Qgo {s:U.Bs}{rs:List Int}{rest:U.Bs}(hsp:U.Sp s rs rest){u:Int}(hs:s.length≤1000000)(w:World) :
  Calls prog 63 #[.int .i64 u,.string ⟨s.toArray⟩] w (Qnt u rs rest w):=by
 by_cases h3:1≤u∧u≤3
 ·obtain⟨h1,h2⟩:=h3;have HT:=Hm (Qto hsp (w:=w.alloc (.cells #[.int .i64 u,.string ⟨#[]⟩,.slice none 0 0,.slice none 0 0] 196)) (f:=w.heap.size) ⟨h1,h2⟩ hs (Blk.new _ _ _));have hA:Below w.heap.size w (w.alloc (.cells #[.int .i64 u,.string ⟨#[]⟩,.slice none 0 0,.slice none 0 0] 196)):=Qa (Wac _ _) _;have HA:=Hm hA;have hi1:¬ (u<1):=by omega
  have hi2:¬ (3<u):=by omega
  have HB:∀ {w1:World},Only (fun k=>k=w.heap.size) (w.alloc (.cells #[.int .i64 u,.string ⟨#[]⟩,.slice none 0 0,.slice none 0 0] 196)) w1→Below w.heap.size w w1:=fun ho =>
   hA.trans (ho.below (by simp) (fun k hk e=>by omega))
  have HBB:=Hm @HB;clear hA HB hs
  by_cases hr:rest=[]
  ·by_cases hb:8000<bl rs
   ·have HR:=Hm (Wao hr hb);clear hr hb hsp;go_enter func63,ntmps63
    go_wp2_with (go_at_call 103;refine HT.o.mono ?_;rintro e w1 ⟨ho,-,h2,-⟩;obtain rfl:=h2 HR.o.1 HR.o.2;unfold errno;have HO:=Hm ho;clear ho h2)
    go_ret2
    exact⟨HBB.o HO.o,fun h=>absurd ⟨h1,h2⟩ h,fun _ h=>absurd HR.o.1 h,fun _ _ _=>rfl,fun _ _ h=>absurd HR.o.2 (by omega)⟩
   ·have HR:Hd (rest=[]∧bl rs≤8000):=⟨hr,by omega⟩;clear hr hb hsp;go_enter func63,ntmps63
    go_wp2_with (go_at_call 103;refine HT.o.mono ?_;rintro e w1 ⟨ho,-,-,h2⟩;obtain⟨rfl,hsh⟩:=h2 HR.o.1 HR.o.2;have HO:=Hm ho;have HSH:=Hm hsh;clear ho h2 hsh)
    go_ret2
    exact⟨HBB.o HO.o,fun h=>absurd ⟨h1,h2⟩ h,fun _ h=>absurd HR.o.1 h,fun _ _ h=>absurd HR.o.2 (by omega),fun _ _ _=>⟨_,rfl,Wak _,HSH.o.less (by simp)⟩⟩
  ·have HR:=Hm hr;clear hr hsp;go_enter func63,ntmps63
   go_wp2_with (go_at_call 103;refine HT.o.mono ?_;rintro e w1 ⟨ho,h2,-⟩;obtain⟨g,rfl,hg⟩:=h2 HR.o;have HO:=Hm ho;have HG:=Hm hg;clear ho h2 hg)
   go_ret2
   exact⟨HBB.o HO.o,fun h=>absurd ⟨h1,h2⟩ h,fun _ _=>⟨g,rfl,HG.o⟩,fun _ h=>absurd h HR.o,fun _ h=>absurd h HR.o⟩
 ·have H3:=Hm h3;have hc:u<1∨(¬ u<1∧3<u):=by omega
  clear hsp hs h3;rcases hc with h | ⟨h,h'⟩
  all_goals
   go_enter func63,ntmps63
   go_wp2_with fail
   first | go_quiet (fail) | skip
   go_wp2_with fail;go_ret2
   exact⟨by first | exact Wac _ _ | exact Qh _ (Wac _ _),fun _=>rfl,fun h=>absurd h H3.o,fun h=>absurd h H3.o,fun h=>absurd h H3.o⟩
end
section
open Go.RowKit Go.Sort
structure SP where
 a:Nat
 p:Nat
 t:RT
 vl:Value
 m:Nat
 k:Nat
 L:List (EN × Value)
def SP.F (s:SP)(j:Nat):Prop:=j=s.a∨s.vl.ownBlock=some j∨j=s.m
structure SrvR (w:World)(F:Nat→Prop)(s:SP)(S:SV):Prop where
 ok:SVok S
 blk:Blk w s.a 106 #[.pointer (some ⟨s.p,0,none⟩),s.vl,.map (some s.m)]
 rope:AtR w s.p s.t
 good:Good s.t
 doc:S.doc=U.encs s.t.runes
 rp:¬ F s.p∧∀ b∈s.t.blocks,¬ F b
 own:w.ownsRow 0 120 3 s.vl s.L.length (ens s.L)
 log:s.L.map Prod.fst=S.log
 ops:EnO F w s.L
 map:Mp w s.m s.k S.last
 tk:s.k≤S.tk
 sub:∀ j,s.F j→F j
 flt:∀ j,F j→j<w.heap.size
section
variable {w w':World}{F F' G:Nat→Prop}{s:SP}{S:SV}
theorem AtR.only {S:Nat→Prop}{p:Nat}{t:RT}(h:AtR w p t)(ho:Only S w w')(hp:¬ S p)(hs:∀ b∈t.blocks,¬ S b):AtR w' p t:=⟨h.blk.only ho hp,h.tree.only ho hs,h.out⟩
theorem SrvR.len (h:SrvR w F s S):s.L.length=S.log.length:=by rw[← h.log,Wbi]
theorem SrvR.only (h:SrvR w F s S)(ho:Only G w w')(hG:∀ j,G j→F j)(hs:∀ j,s.F j→¬ G j)(hF:Grow F F' w.heap.size)(hs':∀ j,s.F j→F' j)(hl:∀ j,F' j→j<w'.heap.size):SrvR w' F' s S:=by
 have hnew:∀ b,b<w.heap.size→¬ F b→¬ F' b:=fun b hb h1 h2=>(hF b h2).elim h1 (fun e=>by omega)
 exact⟨h.ok,h.blk.only ho (hs _ (.inl rfl)),h.rope.only ho (fun e=>h.rp.1 (hG _ e)) (fun b hb e=>h.rp.2 b hb (hG _ e)),h.good,h.doc,
  ⟨hnew _ h.rope.blk.lt h.rp.1,fun b hb=>hnew b (h.rope.tree.lt b hb) (h.rp.2 b hb)⟩,Qt h.own ho (fun k hk=>hs _ (.inr (.inl hk))),h.log,
  h.ops.only (ho.mono (fun k _=>hG k)) hF,h.map.only ho (hs _ (.inr (.inr rfl))),h.tk,hs',hl⟩
theorem SrvR.below (h:SrvR w F s S)(hb:Below w.heap.size w w'):SrvR w' F s S:=h.only (G:=fun _=>False) (Only.of_below hb) (fun _ e=>e.elim) (fun _ _ e=>e) (Grow.refl _ _) h.sub (fun j hj=>Wal (h.flt j hj) hb.size)
theorem SrvR.lt (h:SrvR w F s S):∀ j,s.F j→j<w.heap.size:=by
 rintro j (rfl | e | rfl)
 ·exact h.blk.lt
 ·exact (h.own.lt j e).2
 ·exact h.map.lt
theorem SrvR.apart (h:SrvR w F s S):(∀ k,s.vl.ownBlock=some k→k≠s.a∧k≠s.m)∧s.a≠s.m:=by
 obtain⟨es,clock,hm⟩:=h.map.cap;have hb:=h.blk;unfold Blk at hb;refine⟨fun k hk=>?_,fun e=>?_⟩
 ·rcases h.own.2 with ⟨e,-⟩ | ⟨g,cap,cur,e,-,hg,-⟩
  ·rw[e] at hk;cases hk
  ·rw[e] at hk
   cases hk
   refine⟨fun e=>?_,fun e=>?_⟩
   ·have e2:g=s.a:=e;rw[e2,hb] at hg;simp at hg
   ·have e2:g=s.m:=e;rw[e2,hm] at hg
    cases hg
 ·rw[e,hm] at hb
  cases hb
theorem Qy {w:World}{g:Nat}{ty:TypeId}{a b c:Value}(h:Blk w g ty #[a,b,c]):w.cell? ⟨g,0,none⟩=some a∧w.cell? ⟨g,1,none⟩=some b∧w.cell? ⟨g,2,none⟩=some c:=by
 have z0:=h.cell 0;have z1:=h.cell 1;have z2:=h.cell 2;simp only[Wab,Waa,Wae] at z0 z1 z2
 exact⟨z0,z1,z2⟩
theorem Sl.entry {L:List (EN × Value)}{v:Value}{n:Nat}(h:Sl w 3 v n (ens L)){k:Nat}(hk:k<n)(hl:k<L.length):∃ b o c,v=.slice (some ⟨b,o,none⟩) n c∧b<w.heap.size ∧
  w.cell? ⟨b,o+k*3,none⟩=some (.int .i64 L[k].1.who)∧w.cell? ⟨b,o+k*3+1,none⟩=some (.int .i64 L[k].1.id)∧w.cell? ⟨b,o+k*3+2,none⟩=some L[k].2:=by
 obtain⟨A,c,rfl,h2,_,_,_,h5⟩:=h;obtain⟨ad,rfl,hb,hc⟩:=h5 (by omega);obtain⟨h1,h2,h3⟩:=Qbc hl;have c1:=hc _ _ h1;have c2:=hc _ _ h2;have c3:=hc _ _ h3;obtain⟨b,o,p⟩:=ad
 have hp:p=none:=by
  have hz:=hc 0 (.int .i64 (L[0]'(by omega)).1.who) (by have:=(Qbc (L:=L) (k:=0) (by omega)).1;simpa using this)
  have:(⟨b,o,p⟩:Addr).add 0=⟨b,o,p⟩:=by unfold Addr.add;rfl
  rw[this] at hz
  cases p with
  | none=>rfl
  | some x=>unfold World.cell? at hz;split at hz<;>simp at hz
 subst hp;simp only[Qr] at c1 c2 c3
 exact⟨b,o,c,rfl,hb,c1,by rw[← c2,Nat.add_assoc],by rw[← c3,Nat.add_assoc]⟩
end
theorem Qfm {w:World}{F:Nat→Prop}{s:SP}{S:SV}(h:SrvR w F s S):Calls prog 15 #[.pointer (some ⟨s.a,0,none⟩)] w fun e w'=>e=.returned (.int .i64 (S.log.length:Int))∧w'=w:=by
 obtain⟨z0,z1,z2⟩:=Qy h.blk;have hl:=h.len;obtain⟨A,c,hv⟩:=Qg h.own;rw[hv,hl] at z1;clear h hl hv;go_enter func15,ntmps15
 go_wp2_with fail;go_ret
 exact⟨rfl,rfl⟩
theorem Qmj {w:World}{F:Nat→Prop}{s:SP}{S:SV}(h:SrvR w F s S):Calls prog 16 #[.pointer (some ⟨s.a,0,none⟩)] w fun e w'=>e=.returned (.string ⟨S.doc.toArray⟩)∧Below w.heap.size w w':=by
 obtain⟨z0,z1,z2⟩:=Qy h.blk;have HT:=Hm (Qfo h.rope (by have:=h.good.sz;omega));rw[← h.doc] at HT;clear h;go_enter func16,ntmps16
 go_wp2_with fail;refine HT.o.mono ?_;rintro e w1 ⟨rfl,hb⟩;have HB:=Hm hb;clear hb;go_wp2_with fail;go_ret
 exact⟨rfl,HB.o⟩
theorem Qfn {w:World}{F:Nat→Prop}{s:SP}{S:SV}(h:SrvR w F s S):Calls prog 55 #[.pointer (some ⟨s.p,0,none⟩)] w fun e w'=>e=.returned (.string ⟨S.doc.toArray⟩)∧Below w.heap.size w w':=by
 have:=Qfo h.rope (by have:=h.good.sz;omega)
 rwa [← h.doc] at this
theorem Jh (w:World):(zeroValue 115).run prog w=.ok (.agg #[.int .i64 0,.int .i64 0]) w:=by kernel_rfl
end
section
open Go.RowKit Go.Sort
theorem Qj1 (w:World)(A:Option Addr)(n c:Nat):(binOp .eql 54 (.slice A n c) (.slice none 0 0)).run prog w=.ok (.bool A.isNone) w:=Lib.run_eql_slice_nil w _ _ A n c 0 0 underlying54
theorem Qtz {L:List (EN × Value)}{v:Value}{n:Nat}{w:World}(hsl:Sl w 3 v n (ens L))(h1:∀ u∈ens L,u.oneCell'=true)(hn:n≤1000000) :
  Calls prog 56 #[v] w fun e w'=>(∃ v',e=.returned v'∧w'.ownsRow w.heap.size 120 3 v' n (ens L))∧Below w.heap.size w w':=by
 have HSL:=Hm hsl;have H1:=Hm h1;clear h1;obtain⟨A,c,rfl,h2,-,-,hA,h5⟩:=hsl
 cases A with
 | none =>
  obtain rfl:=hA rfl
  obtain rfl:n=0:=by
   rcases Nat.eq_zero_or_pos n with h | h
   ·exact h
   ·obtain⟨ad,e,-⟩:=h5 h;cases e
  have hnil:ens L=[]:=List.eq_nil_of_length_eq_zero (by simpa using h2);have HNIL:=Hm hnil;clear hA h5 h2 hnil;have heq:=Qj1;go_enter func56,ntmps56
  go_wp2_with fail;go_ret
  exact⟨⟨_,rfl,by rw[HNIL.o];exact World.ownsRow_nil _ _ _ _⟩,Wac _ _⟩
 | some ad =>
  clear hA h5 h2;have heq:=Qj1;go_enter func56,ntmps56
  go_wp2_with (at_builtin;refine Jw Qbd (ens L) (.slice (some ad) n c) Qjh (HSL.o.below (Qa (Wac _ _) _)) rfl rfl rfl rfl H1.o (by unfold maxLen;omega) (by omega) (by simp) ?_;intro v9 w9 hown9 hbel9 hgr9 hnew9;rw[Nat.zero_add,Wbn] at hown9;have HO9:=Hm hown9;obtain⟨A9,k9,rfl⟩:=Qg hown9;have HB9:=Hm hbel9;clear hown9 hbel9 hgr9 hnew9)
  go_ret
  exact⟨⟨_,rfl,HO9.o⟩,(Qa (Wac _ _) _).trans HB9.o⟩
theorem Qt0 {L:List (EN × Value)}{k:Nat}(hk:k<L.length)(v:Value):(ens L).set (k*3+2) v=ens (L.set k (L[k].1,v)):=by
 induction L generalizing k with
 | nil=>simp at hk
 | cons x L ih =>
  have e:∀ (y:EN × Value) (M:List (EN × Value)),ens (y :: M)=Value.int .i64 y.1.who :: Value.int .i64 y.1.id :: y.2 :: ens M:=fun y M=>by simp[ens,ecv]
  cases k with
  | zero=>simp only[e,Nat.zero_mul,Nat.zero_add,List.set_cons_zero,List.set_cons_succ,List.getElem_cons_zero]
  | succ k =>
   have h3:(k+1)*3+2=k*3+2+1+1+1:=by omega
   simp only[e,h3,List.set_cons_succ,List.getElem_cons_succ];rw[ih (by simpa using hk)]
structure Cps (w0 wr:World)(B:Nat)(v:Value)(L0 L:List (EN × Value))(k:Nat):Prop where
 own:wr.ownsRow B 120 3 v L.length (ens L)
 fst:L.map Prod.fst=L0.map Prod.fst
 new:∀ i (h:i<L.length),i<k→Sl wr 3 L[i].2 L[i].1.op.length (opv L[i].1.op)∧∀ g,v.ownBlock=some g→Frs (g+1) L[i].2
 old:∀ i (h:i<L.length),k≤i→∃ h0:i<L0.length,L[i].2=L0[i].2
theorem Cps.step {w0 wr w':World}{B g k cap:Nat}{v v':Value}{L0 L:List (EN × Value)}(h:Cps w0 wr B (.slice (some ⟨g,0,none⟩) L.length cap) L0 L k)(hk:k<L.length)(hb:Below wr.heap.size wr w')(hg:g<wr.heap.size)
  (hs:Sl w' 3 v' L[k].1.op.length (opv L[k].1.op)) (hf:Frs wr.heap.size v') (hv:v=.slice (some ⟨g,0,none⟩) L.length cap) :
  Cps w0 (w'.setCell ⟨g,k*3+2,none⟩ v') B v L0 (L.set k (L[k].1,v')) (k+1):=by
 subst hv;have hO:Only (fun j=>j=g) w' (w'.setCell ⟨g,k*3+2,none⟩ v'):=(Only.refl (fun j=>j=g) w').setCell (p:=⟨g,k*3+2,none⟩) (.inl rfl) _;have own':=(Qt (h.own) (Only.of_below (S:=fun _=>False) hb) (fun _ _ e=>e)).stored (k*3+2) v';refine⟨?_,?_,fun i hi hik=>?_,fun i hi hik=>?_⟩
 ·rw[List.length_set,← Qt0 hk];exact own'.1
 ·rw[List.map_set,← h.fst]
  have:(L.map Prod.fst).set k ((L.map Prod.fst)[k]'(by simpa using hk))=L.map Prod.fst:=List.set_getElem_self _
  simpa using this
 ·rw[List.length_set] at hi;rw[List.getElem_set]
  split
  ·refine⟨hs.frs hf hO (fun j e=>by subst e;exact hg),fun g' e=>?_⟩
   cases e
   exact hf.mono (show g+1≤wr.heap.size from hg)
  ·obtain⟨n1,n2⟩:=h.new i hi (by omega);have n3:Frs (g+1) L[i].2:=n2 g rfl
   exact⟨(n1.below hb).frs n3 hO (fun j e=>by subst e;exact Nat.lt_succ_self _),fun g' e=>by cases e;exact n3⟩
 ·rw[List.length_set] at hi;rw[List.getElem_set,if_neg (by omega)];exact h.old i hi (by omega)
def Qt1 (S:SV)(r:Int)(w:World)(e:Ending)(w':World):Prop :=
 Below w.heap.size w w'∧(¬ (0≤r∧r≤(S.log.length:Int))→e=.returned (.tuple #[.slice none 0 0,errno 2])) ∧
  (0≤r∧r≤(S.log.length:Int)→∃ v L,e=.returned (.tuple #[v,.nilIface])∧Sl w' 3 v L.length (ens L)∧L.map Prod.fst=S.log.drop r.toNat∧(∀ x∈L,Sl w' 3 x.2 x.1.op.length (opv x.1.op)∧Frs w.heap.size x.2)∧Frs w.heap.size v)
section
attribute [local go_sem] Qr
theorem Qt2 {w:World}{F:Nat→Prop}{s:SP}{S:SV}{r:Int}(h:SrvR w F s S)(hN:S.log.length≤1000) :
  Calls prog 18 #[.pointer (some ⟨s.a,0,none⟩),.int .i64 r] w (Qt1 S r w):=by
 obtain⟨z0,z1,z2⟩:=Qy h.blk;have hl:=h.len;have HL:=Hm h;obtain⟨A,c,hv⟩:=Qg h.own;rw[hv,hl] at z1;have hsl:=Sl.of_own h.own;rw[hv,hl] at hsl;have HSL:=Hm hsl;have HLN:=Hm hl;clear h hl hv hsl
 by_cases h0:r<0
 ·have HN0:Hd (¬ (0≤r∧r≤(S.log.length:Int))):=⟨by omega⟩;go_enter func18,ntmps18
  go_wp2_with fail;go_ret2
  exact⟨Wac _ _,fun _=>rfl,fun h=>absurd h HN0.o⟩
 by_cases h1:(S.log.length:Int)<r
 ·have HN0:Hd (¬ (0≤r∧r≤(S.log.length:Int))):=⟨by omega⟩;go_enter func18,ntmps18
  go_wp2_with fail;go_ret2
  exact⟨Wac _ _,fun _=>rfl,fun h=>absurd h HN0.o⟩
 obtain⟨k0,rfl⟩:=Was (show 0≤r by omega);have hk0:k0≤S.log.length:=by omega
 have HR:Hd (0≤(k0:Int)∧(k0:Int)≤(S.log.length:Int)):=⟨by omega⟩;have HEL:Hd ((ens s.L).drop (k0*3)=ens (s.L.drop k0)):=⟨(Qd2 _ _).symm⟩;have H1:Hd (∀ u∈ens (s.L.drop k0),u.oneCell'=true):=⟨Qtc (F:=F) (fun x hx=>HL.o.ops x (List.mem_of_mem_drop hx)) (w:=w)⟩;obtain⟨L0,hL0⟩:∃ L0,L0=s.L.drop k0:=⟨_,rfl⟩;have HL0:=Hm hL0;have hl0:L0.length=S.log.length-k0:=by rw[hL0,War,HLN.o]
 have HN:=Hm hl0;rw[← hL0] at HEL H1;clear hL0 hl0;go_enter func18,ntmps18
 go_wp2_with (first
  | (refine Qcy Qbd (k:=k0) rfl rfl rfl rfl HSL.o hk0 ?_;intro A1 c1 hs1 hb1;rw[HEL.o] at hs1;have HS1:=Hm hs1;clear hs1 hb1)
  | (go_at_call 56;refine (Qtz HS1.o H1.o (by omega)).mono ?_;rintro e w1 ⟨⟨v1,rfl,ho1⟩,hb1⟩;rw[← HN.o] at ho1;obtain⟨A2,c2,rfl⟩:=Qg ho1;have HO1:=Hm ho1;have HB1:=Hm hb1;clear ho1 hb1))
 have HM:Hd (L0.length≤1000):=⟨by have:=HN.o;omega⟩;have HC0:Hd (Cps w w1 w.heap.size (.slice A2 L0.length c2) L0 L0 0):=⟨⟨HO1.o,rfl,fun i _ h=>by omega,fun i h _=>⟨h,rfl⟩⟩⟩;clear hk0
 go_loopw [29] (fun i wr=>∃ (k:Nat) (L:List (EN × Value)),k≤L0.length∧i=.int .i64 k∧L.length=L0.length∧Cps w wr w.heap.size (.slice A2 L0.length c2) L0 L k∧Below w.heap.size w wr) (fun i _=>L0.length-(intOf i).toNat)
 case atStart=>exact⟨0,L0,Nat.zero_le _,rfl,rfl,HC0.o,HB1.o⟩
 case round =>
  obtain⟨k,L,hk,rfl,hlen,hcp,hbel⟩:=hrel;have HB:=Hm hbel;have HCP:=Hm hcp
  by_cases hkn:k<L0.length
  ·have hkl:k<L.length:=by omega
   obtain⟨g,cap,hv,hg1,hg2⟩:=hcp.own.form (by omega);rw[hlen] at hv
   cases hv
   obtain⟨h00,e2⟩:=hcp.old k hkl (Wak _);have hx:=HL.o.ops (L0[k]) (List.mem_of_mem_drop (by rw[← HL0.o];exact Wau _))
   have e1:L[k].1=L0[k].1:=by
    have:=congrArg (fun l=>l[k]?) hcp.fst
    simpa [hkl,hkn] using this
   have hso:=hx.1;rw[← e1,← e2] at hso;have HSO:=Hm (hso.below hbel);obtain⟨A8,c8,he8,-⟩:=hso;have hLk:L[k]=(L[k].1,Value.slice A8 L[k].1.op.length c8):=by rw[← he8]
   have hlog:S.log[k0+k]?=some L[k].1:=by
    have:=congrArg (fun l=>l[k]?) HL0.o
    have h2:=congrArg (fun l=>l[k0+k]?) HL.o.log;simp only[List.getElem?_drop,Wav,Waj hkn] at this h2;rw[← this] at h2;rw[← h2,e1];rfl
   have hsz:L[k].1.op.length≤1000000:=by
    obtain⟨g1,g2,g3,g4,g5,g6,g7⟩:=HL.o.ok.good hlog
    have:=ZW (fun p hp=>(g1 p hp).1)
    omega
   have hown:=hcp.own;rw[hlen] at hown;have cq:=hown.cellAt (k*3+2) (by omega);rw[(Qbc hkl).2.2,he8] at cq;have fq:=hown.frozenAt (k*3+2);have HKL:=Hm hkl;have HLE:=Hm hlen;have HE8:=Hm he8;have HSZ:=Hm hsz;clear hcp hown hlog hLk e1 e2 h00 hx hsz;rw[he8] at HSO;obtain⟨q,hq⟩:∃ q,q=L[k].1.op:=⟨_,rfl⟩;rw[← hq] at cq HSO HSZ;have HQ:=Hm hq;obtain⟨nq,hnq⟩:∃ m,m=q.length:=⟨_,rfl⟩;have HNQ:=Hm hnq;rw[← hnq] at cq HSO HSZ;clear hq hnq he8;have hkb:k<1000:=by have:=HM.o;omega
   have hgl:g<wr.heap.size:=by have:=HCP.o.own.lt g rfl;exact this.2
   go_wp2_with fail;refine (Qd3 HSO.o HSZ.o).mono ?_;rintro e w9 ⟨⟨v9,rfl,hs9,hf9⟩,hb9⟩;have HS9:=Hm hs9;have HF9:=Hm hf9;have HB9:=Hm hb9;obtain⟨A9,c9,rfl,-⟩:=hs9;have cq9:w9.cell? ⟨g,k*3+2,none⟩=some (.slice A8 nq c8):=by rw[← cq];exact hb9.cell (p:=⟨g,_,none⟩) hgl
   have fq9:w9.frozen? ⟨g,k*3+2,none⟩=false:=by rw[← fq];exact hb9.frozen (p:=⟨g,_,none⟩) hgl
   have hgl9:g<w9.heap.size:=Wal hgl hb9.size;clear cq fq hb9 hf9;go_wp2_with fail;have hcp2:Cps w wr w.heap.size (.slice (some ⟨g,0,none⟩) L.length c2) L0 L k:=by rw[HLE.o];exact HCP.o
   have hst:=hcp2.step (v:=.slice (some ⟨g,0,none⟩) L0.length c2) HKL.o HB9.o hgl (by rw[← HQ.o,← HNQ.o];exact HS9.o) HF9.o (by rw[HLE.o])
   exact⟨⟨k+1,_,by omega,by go_num,by rw[List.length_set,HLE.o],hst,(Qb HB.o HB9.o).setCell hg1 _⟩,by simp only[intOf];omega⟩
  ·obtain rfl:k=L0.length:=by omega
   have HLE:=Hm hlen;clear hcp hbel;go_wp2_with fail;go_ret2;refine⟨HB.o,fun h=>absurd HR.o h,fun _=>⟨_,L,rfl,by rw[HLE.o];have:=Sl.of_own HCP.o.own;rwa [HLE.o] at this,?_,fun x hx=>?_,Frs.of_own HCP.o.own⟩⟩
   ·rw[HCP.o.fst,HL0.o,List.map_drop,HL.o.log];rfl
   ·obtain⟨i,hi,rfl⟩:=List.getElem_of_mem hx;obtain⟨n1,n2⟩:=HCP.o.new i hi (by have:=HLE.o;omega);refine⟨n1,?_⟩;obtain⟨g,cap,hv,hg1,-⟩:=HCP.o.own.form (by omega);exact (n2 g (by rw[hv];rfl)).mono (by omega)
end
end
section
open Go.RowKit Go.Sort
def Zw (F:Nat→Prop)(w:World):Prop:=Hdl w∧¬ F 0
theorem Zw.only {w w':World}{F F':Nat→Prop}(h:Zw F w)(ho:Only F w w')(hF:Grow F F' w.heap.size):Zw F' w':=by
 refine⟨?_,fun e=>(hF _ e).elim h.2 (fun e=>by have:=h.1.lt;omega)⟩
 have:=h.1
 unfold Hdl at this ⊢;rw[← this];exact World.cell?_of_block (ho.block _ h.1.lt h.2)
theorem Zw.below {w w':World}{F F':Nat→Prop}(h:Zw F w)(hb:Below w.heap.size w w')(hF:Grow F F' w.heap.size):Zw F' w':=h.only (Only.of_below hb) hF
def Zc (F:Nat→Prop)(s:SP)(r:Int × SV)(w:World)(e:Ending)(w':World):Prop :=
 ∃ s':SP,s'.a=s.a∧s'.m=s.m∧Only s.F w w'∧Grow s.F s'.F w.heap.size∧e=.returned (QC r.1)∧∀ F',(∀ j,F' j→F j∨s'.F j)→(∀ j,s'.F j→F' j)→SrvR w' F' s' r.2
theorem Sl.lit {w:World}{t:TypeId}{size m:Nat}{cs:Array Value}(hl:cs.size=m*size)(hm:m≤maxLen):Sl (w.alloc (.cells cs t)) size (.slice (some ⟨w.heap.size,0,none⟩) m m) m cs.toList:=by
 refine⟨_,_,rfl,by simpa using hl,Wak _,hm,(fun h=>nomatch h),fun _=>⟨_,rfl,by simp,fun j u hu=>?_⟩⟩
 have:(⟨w.heap.size,0,none⟩:Addr).add j=⟨w.heap.size,j,none⟩:=by unfold Addr.add;split<;>simp_all
 rw[this,World.cell?_alloc_new];simpa using hu
theorem Zc.same {F:Nat→Prop}{s:SP}{S:SV}{w w':World}{c:Int}{e:Ending}(h:SrvR w F s S)(hb:Below w.heap.size w w')(he:e=.returned (QC c)):Zc F s (c,S) w e w' :=
 ⟨s,rfl,rfl,Only.of_below hb,Grow.refl _ _,he,fun _ h1 h2=>h.only (G:=fun _=>False) (Only.of_below hb) (fun _ e=>e.elim) (fun _ _ e=>e) (fun j hj=>.inl ((h1 j hj).elim id (h.sub j))) h2 (fun j hj=>Wal (h.flt j ((h1 j hj).elim id (h.sub j))) hb.size)⟩
theorem SrvR.push {w w5 w6 w7 w8:World}{F:Nat→Prop}{s:SP}{S:SV}{who id:Int}{lo:List PT}{R2:List Int}{p5:Nat}{t5:RT}{v7 v8:Value}(h:SrvR w F s S)
  (hok:SVok ⟨S.docs++[U.encs R2],S.log++[⟨who,id,lo⟩],S.last,S.tk⟩) (h5:Below w.heap.size w w5) (hat:AtR w5 p5 t5) (hg:Good t5) (hr:t5.runes=R2) (hp:w.heap.size≤p5∧∀ i∈t5.blocks,w.heap.size≤i)
  (h6:Only (fun k=>k=s.a) w5 w6) (hb6:Blk w6 s.a 106 #[.pointer (some ⟨p5,0,none⟩),s.vl,.map (some s.m)]) (h7:Below w6.heap.size w6 w7) (hs7:Sl w7 3 v7 lo.length (opv lo)) (hf7:Frs w6.heap.size v7)
  (h8:w8.ownsRow 0 120 3 v8 (s.L.length+1) (ens s.L++ecv (⟨who,id,lo⟩,v7))) (hg8:w7.grownBy w8 s.vl.ownBlock) (hn8:∀ k,v8.ownBlock=some k→s.vl.ownBlock=some k∨w7.heap.size≤k)
  {c:Int} (hc:c=0) {e:Ending} (he:e=.returned .nilIface):Zc F s (c,⟨S.docs++[U.encs R2],S.log++[⟨who,id,lo⟩],S.last,S.tk⟩) w e (w8.setCell ⟨s.a,1,none⟩ v8):=by
 subst hc;obtain⟨ap1,ap2⟩:=h.apart;have hlt:=h.lt;have la:=hlt s.a (.inl rfl);have lm:=hlt s.m (.inr (.inr rfl));have lv:=fun k hk=>hlt k (.inr (.inl hk))
 have z5:=h5.size;have z6:=h6.size;have z7:=h7.size;have z8:=hg8.size;have o8:Only (fun k=>s.vl.ownBlock=some k) w7 w8:=(Zzz hg8).mono (fun k _ e=>e.symm);have o9:Only (fun k=>k=s.a) w8 (w8.setCell ⟨s.a,1,none⟩ v8):=(Only.refl (fun k=>k=s.a) w8).setCell (p:=⟨s.a,1,none⟩) (.inl rfl) _
 have hall:Only s.F w (w8.setCell ⟨s.a,1,none⟩ v8) :=
  ((((Only.of_below h5).trans (h6.mono (fun _ _ e=>.inl e))).trans (Only.of_below h7)).trans (o8.mono (fun _ _ e=>.inr (.inl e)))).trans (o9.mono (fun _ _ e=>.inl e))
 have hgrow:∀ k,v8.ownBlock=some k→s.F k∨w7.heap.size≤k:=fun k hk=>(hn8 k hk).imp_left (fun e=>.inr (.inl e))
 have l8:∀ k,v8.ownBlock=some k→k<w8.heap.size:=fun k hk=>(h8.lt k hk).2
 have b8:Blk w8 s.a 106 #[.pointer (some ⟨p5,0,none⟩),s.vl,.map (some s.m)]:=(hb6.below h7 hb6.lt).only o8 (fun e=>(ap1 _ e).1 rfl);have lp:=hat.blk.lt
 have a8:AtR (w8.setCell ⟨s.a,1,none⟩ v8) p5 t5 :=
  (((hat.only h6 (by have:=hp.1;omega) (fun b hb=>by have:=hp.2 b hb;omega)).below h7).only o8 (fun e=>by have:=lv _ e;have:=hp.1;omega) (fun b hb e=>by have:=lv _ e;have:=hp.2 b hb;omega)).only o9 (by have:=hp.1;omega) (fun b hb=>by have:=hp.2 b hb;omega)
 refine⟨⟨s.a,p5,t5,v8,s.m,s.k,s.L++[(⟨who,id,lo⟩,v7)]⟩,rfl,rfl,hall,?_,he,fun F' k1 k2=>?_⟩
 ·rintro j (e | e | e)
  ·exact .inl (.inl e)
  ·exact (hgrow j e).imp_right (fun e=>by omega)
  ·exact .inl (.inr (.inr e))
 have kG:∀ j,F' j→F j∨w7.heap.size≤j:=fun j hj=>by
  rcases k1 j hj with hj | hj
  ·exact .inl hj
  ·rcases hj with e | e | e
   ·exact .inl (h.sub j (.inl e))
   ·exact (hgrow j e).imp_left (h.sub j)
   ·exact .inl (h.sub j (.inr (.inr e)))
 refine⟨hok,b8.set_ 1 v8,a8,hg,?_,⟨fun e=>?_,fun b hb e=>?_⟩,?_,?_,fun x hx=>?_,?_,h.tk,k2,fun j hj=>?_⟩
 ·unfold SV.doc;have hl:=h.ok.len;dsimp only;rw[Wad,Way (by simp;omega)];simp[hl,hr]
 ·rcases kG _ e with e | e
  ·have:=h.flt _ e;have:=hp.1;dsimp only at *;omega
  ·dsimp only at e;omega
 ·have:=hat.tree.lt b hb
  rcases kG _ e with e | e
  ·have:=h.flt _ e;have:=hp.2 b hb;omega
  ·omega
 ·have:(ens (s.L++[(⟨who,id,lo⟩,v7)]))=ens s.L++ecv (⟨who,id,lo⟩,v7):=by rw[Qje,Qjf]
  rw[this,Wad];refine Qt h8 o9 (fun k hk e=>?_);rcases hn8 k hk with e2 | e2
  ·exact (ap1 k e2).1 e
  ·omega
 ·rw[Wbo,h.log];rfl
 ·rcases List.mem_append.1 hx with hx | hx
  ·exact (h.ops x hx).only (hall.mono (fun k _=>h.sub k)) (fun j hj=>(kG j hj).imp_right (fun e=>by omega))
  ·obtain rfl:=Wbd.1 hx
   have hblk:∀ ad n c,v7=.slice (some ad) n c→0<n→w6.heap.size≤ad.block∧ad.block<w7.heap.size:=fun ad n c e hn=>by
    refine⟨hf7 ad n c e,?_⟩;obtain⟨A,c',e',-,-,-,-,hh⟩:=hs7;rw[e'] at e
    cases e
    obtain⟨ad',e2,hb,-⟩:=hh hn
    cases e2
    exact hb
   refine⟨(hs7.only o8 (fun A c e hn hA=>by have:=hblk A _ c e hn;have:=lv _ hA;omega)).only o9 (fun A c e hn hA=>by have:=hblk A _ c e hn;omega),fun ad n c e hn hF=>?_⟩
   have:=hblk ad n c e hn
   rcases kG _ hF with e | e
   ·have:=h.flt _ e;omega
   ·omega
 ·refine (((h.map.below h5).only h6 (fun e=>ap2 e.symm)).below h7).only o8 (fun e=>(ap1 _ e).2 rfl) |>.only o9 (fun e=>ap2 e.symm)
 ·rw[World.size_setCell];rcases k1 j hj with hj | hj
  ·have:=h.flt j hj;omega
  ·rcases hj with e | e | e
   ·dsimp only at e;omega
   ·exact l8 j e
   ·dsimp only at e;omega
section
attribute [local go_sem] Qr
theorem Qht {w:World}{F:Nat→Prop}{s:SP}{S:SV}{who id rev:Int}{op:List PT}{v:Value}(h:SrvR w F s S)(hg:Zw F w)(hN:S.log.length≤1000)(hxo:OpO F w v op)(hp:Qc op≤100000)(_hn:op.length≤200000) :
  Calls prog 52 #[.pointer (some ⟨s.a,0,none⟩),.int .i64 who,.int .i64 id,.int .i64 rev,v] w (Zc F s (S.does who id rev op) w):=by
 obtain⟨z0,z1,z2⟩:=Qy h.blk;have hl:=h.len;have HL:=Hm h;have HG:=Hm hg.1;have hx:=hxo.sl;have HX:=Hm hx;have HXO:=Hm (hxo.sub h.sub);have HLT:=Hm h.lt;have HP:=Hm hp;have HPP:Hd (∀ p∈op,p.put.length≤35184372087808):=⟨fun p hp'=>by have:=Z8 hp';omega⟩;obtain⟨A,c,hv⟩:=Qg h.own;rw[hv,hl] at z1;have hsl:=Sl.of_own h.own;rw[hv,hl] at hsl;have HSL:=Hm hsl;have HLN:=Hm hl;have HV:=Hm hv;obtain⟨Ax,cx,rfl,-⟩:=hx;clear h hl hv hsl hg hp hxo
 by_cases h0:rev<0
 ·have HD:Hd (S.does who id rev op=(2,S)):=⟨by unfold SV.does;rw[if_pos (.inl h0)]⟩;go_enter func52,ntmps52
  go_wp2_with fail;go_ret;rw[HD.o];exact Zc.same HL.o (Wac _ _) rfl
 by_cases h1:(S.log.length:Int)<rev
 ·have HD:Hd (S.does who id rev op=(2,S)):=⟨by unfold SV.does;rw[if_pos (.inr h1)]⟩;go_enter func52,ntmps52
  go_wp2_with fail;go_ret;rw[HD.o];exact Zc.same HL.o (Wac _ _) rfl
 by_cases h300:300≤S.log.length
 ·have HD:Hd (S.does who id rev op=(4,S)):=⟨by unfold SV.does;rw[if_neg (by omega),if_pos h300]⟩;have h3:(300:Int)≤(S.log.length:Int):=by omega
  go_enter func52,ntmps52
  go_wp2_with fail;go_ret;rw[HD.o];exact Zc.same HL.o (Wac _ _) rfl
 have h3:¬ ((300:Int)≤(S.log.length:Int)):=by omega
 obtain⟨r,rfl⟩:=Was (show 0≤rev by omega);have hrl:r≤S.log.length:=by omega
 have hrev:(Int.ofNat r).toNat=r:=rfl
 have HD0:Hd (S.does who id (r:Int) op=if chk op (((S.docs[r]?).getD []).length:Nat)≠0 then (chk op (((S.docs[r]?).getD []).length:Nat),S)
   else if apc (Q7 op (S.log.drop r)) S.doc≠0 then (apc (Q7 op (S.log.drop r)) S.doc,S)
   else if 2000<(apr (Q7 op (S.log.drop r)) S.doc).length then (12,S)
   else (0,⟨S.docs++[apr (Q7 op (S.log.drop r)) S.doc],S.log++[⟨who,id,Q7 op (S.log.drop r)⟩],S.last,S.tk⟩)):=⟨by
  unfold SV.does;rw[if_neg (by omega),if_neg h300];rfl⟩
 obtain⟨R,hR1,hR2,hR3⟩:=HL.o.ok.at_ hrl;obtain⟨n,hn'⟩:∃ n,n=((S.docs[r]?).getD []).length:=⟨_,rfl⟩;have HNN:=Hm hn';have hnb:n≤2000:=by rw[hn',hR1];exact hR3
 have HDT:=Hm (Qfn HL.o);clear hrev hn' hR1 hR2 hR3 h300;go_enter func52,ntmps52
 go_upto_if 50 with (go_at_call 55;refine HDT.o.mono ?_;rintro e w0 ⟨rfl,hb0⟩;have HB0:=Hm hb0;have v1:=hb0.cell (p:=⟨s.a,1,none⟩) HL.o.blk.lt;rw[z1] at v1;clear hb0)
 go_cut [11] from 50 to 62 (fun sn wx=>sn=.int .i64 (n:Int)∧Below w.heap.size w wx)
 case first =>
  by_cases hlt:r<S.log.length
  ·have hlt':(r:Int)<(S.log.length:Int):=by omega
   obtain⟨b,o,c',hv,hbw,c0,c1,c2⟩:=HSL.o.entry hlt (by have:=HLN.o;omega)
   cases hv
   have hrL:r<s.L.length:=by have:=HLN.o;omega
   have hxl:s.L[r]∈s.L:=Wau hrL;have hso:=(HL.o.ops _ hxl).1;have hlog:S.log[r]?=some s.L[r].1:=by rw[← HL.o.log,Wav,Waj hrL];rfl
   obtain⟨g1,g2,-⟩:=HL.o.ok.good hlog;generalize s.L[r]=xr at *;have HSO:=Hm hso;obtain⟨Ar,cr,hxr,-⟩:=hso;have HW:Hd (wrap64 (was xr.1.op)=(n:Int)):=⟨by rw[g2,← HNN.o];exact Zl (by omega) (by omega)⟩;rw[hxr] at c2 HSO;clear hxl hlog g1 g2;have d2:=HB0.o.cell (p:=⟨b,o+r*3+2,none⟩) hbw;rw[c2] at d2;have hbw0:b<w0.heap.size:=Wal hbw HB0.o.size;go_wp2_with (go_at_call 74;refine (YU (HSO.o.below HB0.o)).mono ?_;rintro e w2 ⟨rfl,hb2⟩;rw[HW.o];have HB2:=Hm (Qb HB0.o hb2);clear hb2)
   go_meet
   exact⟨rfl,HB2.o⟩
  ·have hlt':¬ ((r:Int)<(S.log.length:Int)):=by omega
   obtain rfl:r=S.log.length:=by omega
   have HW:Hd (S.doc.length=n):=⟨HNN.o.symm⟩;go_wp2_with fail;go_meet
   exact⟨by rw[HW.o],HB0.o⟩
 case rest =>
  obtain⟨rfl,hb1⟩:=hcut
  rename_i w1
  have HB1:=Hm hb1;have y0:=hb1.cell (p:=⟨s.a,0,none⟩) HL.o.blk.lt;have y1:=hb1.cell (p:=⟨s.a,1,none⟩) HL.o.blk.lt;rw[z0] at y0;rw[z1] at y1;have HCK:=Hm (Zr (m:=(n:Int)) (HG.o.below hb1) (HX.o.below hb1) HPP.o (by omega));clear hb1
  by_cases hc:chk op (n:Int)=0
  ·rw[← HNN.o] at HD0;have HC:=Hm hc;have HD1:=Hm (HD0.o.trans (if_neg (fun h=>h hc)));have hce:QC (chk op (n:Int))=Value.nilIface:=by rw[hc];rfl
   have HCE:=Hm hce;clear hc hce HD0;have HEL:Hd ((ens s.L).drop (r*3)=ens (s.L.drop r)):=⟨(Qd2 _ _).symm⟩
   go_wp2_with (first
    | (go_at_call 92;refine HCK.o.mono ?_;rintro e w2 ⟨⟨ev,rfl,-,rfl⟩,hb2⟩;rw[HCE.o];have HB2:=Hm (Qb HB1.o hb2);have x0:=hb2.cell (p:=⟨s.a,0,none⟩) (Wal HL.o.blk.lt HB1.o.size);have x1:=hb2.cell (p:=⟨s.a,1,none⟩) (Wal HL.o.blk.lt HB1.o.size);rw[y0] at x0;rw[y1] at x1;clear hb2)
    | (refine Qcy Qbd (k:=r) rfl rfl rfl rfl (HSL.o.below HB2.o) hrl ?_;intro A1 c1 hs1 hb1;rw[HEL.o] at hs1;have HS1:=Hm hs1;clear hs1 hb1))
   clear y0 y1 x0 z0 z1 z2
   go_loopw [4,76] (fun vo i wr=>∃ (k:Nat) (lo:List PT),k≤S.log.length-r∧i=.int .i64 k∧lo=Q7 op ((S.log.drop r).take k)∧OpO s.F wr vo lo∧Below w2.heap.size w2 wr) (fun _ i _=>(S.log.length-r)-(intOf i).toNat)
   case atStart=>exact⟨0,op,Nat.zero_le _,rfl,rfl,HXO.o.below HB2.o (Grow.refl _ _),Wac _ _⟩
   case round =>
    obtain⟨k,lo,hk,rfl,hlo,hso,hbel⟩:=hrel;have HW2:=Hm hbel;have HB:=Hm (Qb HB2.o hbel);have HOO:=Hm hso;have hso:=hso.sl;have HSO:=Hm hso;obtain⟨fg1,fg2,fg3⟩:=Qif HL.o.ok (r:=r) (op:=op) (by rw[← HNN.o];exact HC.o) k (by omega)
    rw[← hlo] at fg1 fg2 fg3
    by_cases hkn:k<S.log.length-r
    ·have hkl:k<(s.L.drop r).length:=by rw[War,HLN.o];exact hkn
     obtain⟨b,o,c',hv,hbw,c0,c1',c2⟩:=(HS1.o.below hbel).entry hkn hkl
     cases hv
     have hxl:(s.L.drop r)[k]∈s.L:=List.mem_of_mem_drop (Wau hkl);have hse:=(HL.o.ops _ hxl).1
     have hlog:S.log[r+k]?=some ((s.L.drop r)[k]).1:=by
      rw[← HL.o.log,Wav,← List.getElem?_drop,Waj hkl];rfl
     have hstep:Q7 op ((S.log.drop r).take (k+1))=trl false lo ((s.L.drop r)[k]).1.op:=by
      have hk3:k<(S.log.drop r).length:=by rw[War];exact hkn
      rw[Wag hk3,Qa1,← hlo]
      have:(S.log.drop r)[k]=((s.L.drop r)[k]).1:=by
       have h1:(S.log.drop r)[k]?=some ((s.L.drop r)[k]).1:=by rw[List.getElem?_drop];exact hlog
       rw[Waj hk3] at h1;exact Wbg h1
      rw[this]
     obtain⟨g1,g2,g3,g4,g5,g6,g7⟩:=HL.o.ok.good hlog;generalize (s.L.drop r)[k]=xr at *;have hd2000:was lo≤2000:=by rw[fg2,← g2];exact g5
     have HTC:=Hm (Qa2 (n:=((S.docs[r+k]?).getD []).length) fg1 g1 fg2 g2 (by omega));have HM1:=Hm (J6 fg1 (by omega) (by rw[fg3];exact HP.o));have HM2:=Hm (J6 g1 (by omega) (by omega));have HST:=Hm hstep;have HSE:=Hm (hse.below HB.o);obtain⟨Ae,ce,hxe,-⟩:=hse;rw[hxe] at c2 HSE;obtain⟨Ao,co,rfl,-⟩:=hso;have hkb:k<1000:=by omega
     clear hlo fg1 fg2 fg3 hxl hlog g1 g2 g3 g4 g5 g6 g7 hstep hd2000 hxe hbel hkl;generalize xr.1.op=le at *;generalize xr.1.who=xw at *;generalize xr.1.id=xi at *;go_wp2_with (go_at_call 93;refine (Qgt (first:=false) (HG.o.below (Qa HB.o _)) (HSO.o.below (Qa (Wac _ _) _)) (HSE.o.below (Qa (Wac _ _) _)) HM1.o HM2.o).mono ?_;rintro e w9 ⟨⟨hb9,v9,rfl,hs9,-⟩,hf9⟩;have HS9:=Hm (hs9 HTC.o);have HF9:=Hm ((hf9 _ _ rfl).mono (B':=w.heap.size) (by simp only[Waq];have:=HB.o.size;omega));clear hf9;rw[HTC.o,YN];have HB9:=Hm ((Qa (Wac _ _) _).trans (hb9.mono (by simp)):Below wr.heap.size wr w9);obtain⟨A9,c9,rfl,-⟩:=HS9.o;clear hs9 hb9)
     exact⟨⟨k+1,trl false lo le,by omega,by go_num,HST.o.symm,OpO.frs HS9.o HF9.o HLT.o,HW2.o.trans (HB9.o.mono HW2.o.size)⟩,by simp only[intOf];omega⟩
    ·obtain rfl:k=S.log.length-r:=by omega
     rw[List.take_of_length_le (by rw[War];omega)] at hlo;rw[show r+(S.log.length-r)=S.log.length from by omega] at fg2;rw[← hlo] at HD1;have HLO:=Hm hlo;obtain⟨R,hR1,hR2,hR3,hR4⟩:=HL.o.ok.doc_;have hdl:S.doc.length≤2000:=by rw[hR1];exact hR3
     have y0:=(Qb HB1.o (Wac _ _)).cell (p:=⟨s.a,0,none⟩) HL.o.blk.lt;have hc0:=Qy (HL.o.blk.below HB.o HL.o.blk.lt);obtain⟨z0,z1,z2⟩:=hc0;have HTX:=Hm (Qfn (HL.o.below HB.o));have HPL:Hd (Qc lo≤100000):=⟨by rw[fg3];exact HP.o⟩;have HAP:=fun (W:World) (hW:Below wr.heap.size wr W)=>Hm (Qii (s:=S.doc) (HG.o.below (Qb HB.o hW)) (HSO.o.below hW) (fun p hp'=>by have:=Z8 hp';have:=HPL.o;omega) (by have:=HPL.o;omega) (by omega))
     have HFG:=Hm fg1;have HHB:=hbel;obtain⟨Ao,co,rfl,-⟩:=hso;have HR1:=Hm hR1;clear fg1 fg2 fg3 hbel hR4 y0 hlo;have HHBL:=Hm HHB;clear HHB hR1
     by_cases ha:apc lo S.doc=0
     ·have HD2:=Hm (HD1.o.trans (if_neg (fun h=>h ha)));rw[HR1.o] at ha;obtain⟨X,hX⟩:=Qaz hR2 ha;have hap:=(hX.apply hR2).2;rw[← HR1.o] at hap ha;have hall:=QT hX.allP hR2;obtain⟨R2,hR2e⟩:∃ x,x=rap X R:=⟨_,rfl⟩;rw[← hR2e] at hap hall;have HAE:Hd (QC (apc lo S.doc)=Value.nilIface):=⟨by rw[ha];rfl⟩;have HAQ:=Hm hap;have HALL:=Hm hall;have HX2:=Hm hX;have HR2E:=Hm hR2e;clear ha hap hall hX hR2e
      by_cases h20:2000<bl R2
      ·have hi:(2000:Int)<((U.encs R2).length:Int):=by show (2000:Int)<(bl R2:Int);omega
       have HD3:=Hm (HD2.o.trans (if_pos (by rw[HAQ.o];exact h20)));clear h20
       go_wp2_with (first
        | (go_at_call 55;refine HTX.o.mono ?_;rintro e w3 ⟨rfl,hb3⟩;have HB3:=Hm hb3;clear hb3)
        | (go_at_call 94;refine (HAP _ HB3.o).out.mono ?_;rintro e w4 ⟨rfl,hb4⟩;rw[HAE.o,HAQ.o];have HB4:=Hm (Qb (Qb HB.o HB3.o) hb4);clear hb4))
       go_ret;rw[HD3.o];exact Zc.same HL.o HB4.o rfl
      ·have hi:¬ ((2000:Int)<((U.encs R2).length:Int)):=by show ¬ ((2000:Int)<(bl R2:Int));omega
       have HD3:=Hm (HD2.o.trans (if_neg (by rw[HAQ.o];exact h20)));have HBL:Hd (bl R2≤2000):=⟨by omega⟩;rw[HAQ.o] at HD3;have HNW:=fun W=>Hm (Qce (U.sp_encs HALL.o) W (by have h1:(U.encs R2).length=bl R2:=rfl;have:=HBL.o;omega))
       clear h20
       go_upto_region 27 with (first
        | (go_at_call 55;refine HTX.o.mono ?_;rintro e w3 ⟨rfl,hb3⟩;have HB3:=Hm hb3;clear hb3)
        | (go_at_call 94;refine (HAP _ HB3.o).out.mono ?_;rintro e w4 ⟨rfl,hb4⟩;rw[HAE.o,HAQ.o];have HB4:=Hm (Qb (Qb HB.o HB3.o) hb4);have HR4:=Hm (Qb HB3.o hb4);clear hb4)
        | (go_at_call 48;refine (HNW _).out.mono ?_;rintro e w5 ⟨hb5,-,-,h5⟩;obtain⟨p5,t5,rfl,hat5,hg5,hr5,hp5,ht5⟩:=h5 rfl (by have:=HBL.o;omega);have HB5:=Hm (Qb HB4.o hb5);have HR5:=Hm (Qb HR4.o hb5);have HAT5:=Hm hat5;have HG5:=Hm hg5;have HE5:=Hm hr5;have HP5:=Hm (Wao (Wbf HB4.o.size hp5) (fun i hi=>Wbf HB4.o.size (ht5 i hi)));have hbk:=HL.o.blk.below HB5.o HL.o.blk.lt;have HBK5:=Hm hbk;obtain⟨z0,z1,z2⟩:=Qy hbk;have zf:=hbk.frozen;have zl:=hbk.lt;clear hb5 h5 hat5 hg5 hr5 hp5 ht5 hbk))
       obtain⟨w6,hw6⟩:∃ W,W=w5.setCell ⟨s.a,0,none⟩ (.pointer (some ⟨p5,0,none⟩)):=⟨_,rfl⟩;have hbk6:Blk w6 s.a 106 #[.pointer (some ⟨p5,0,none⟩),s.vl,.map (some s.m)]:=by rw[hw6];exact HBK5.o.set_ 0 _
       have ho6:Only (fun k=>k=s.a) w5 w6:=by rw[hw6];exact (Only.refl (fun k=>k=s.a) w5).setCell (p:=⟨s.a,0,none⟩) (.inl rfl) _
       rw[← hw6];clear hw6 z0 z1 z2 zf zl;have HBK6:=Hm hbk6;have HO6:=Hm ho6;have HSO6:=Hm ((HOO.o.below HR5.o (Grow.refl _ _)).only (ho6.mono (fun _ _ e=>.inl e)) (Grow.refl _ _)).sl;have HOW6:=Hm (Qt (HL.o.own) ((Only.of_below HB5.o).trans (ho6.mono (S':=fun k=>k=s.a) (fun _ _ e=>e))) (fun k hk e=>(HL.o.apart.1 k hk).1 e));have HLL:Hd (lo.length≤1000000):=⟨by have h1:=ZW (fun p hp=>(HFG.o p hp).1);have h2:=HX2.o.sizes.1;have:=HPL.o;omega⟩;obtain⟨z0,z1,z2⟩:=Qy hbk6;rw[HV.o,HLN.o] at z1;have zf:=hbk6.frozen;have zl:=hbk6.lt;clear hbk6 ho6;have how6:=HOW6.o;rw[HV.o,HLN.o] at how6;have HOX6:=Hm how6;clear how6
       go_region_law (first
        | (go_simp;refine (Qd3 (HSO6.o.below (Qe (Wac _ _))) HLL.o).mono ?_;rintro e w7 ⟨⟨v7,rfl,hs7,hf7⟩,hb7⟩;have HB7:=Hm ((Qe (Wac _ _)).trans hb7:Below w6.heap.size w6 w7);have HS7:=Hm hs7;have HF7:Hd (Frs w6.heap.size v7):=⟨hf7⟩;obtain⟨A7,c7,rfl,-⟩:=hs7;have HBK7:=Hm (HBK6.o.below HB7.o HBK6.o.lt);have HOW7:=Hm (Qt HOX6.o (Only.of_below (S:=fun _=>False) HB7.o) (fun _ _ e=>e));obtain⟨x0,x1,x2⟩:=Qy HBK7.o;rw[HV.o,HLN.o] at x1;have xf:=HBK7.o.frozen;have xl:=HBK7.o.lt;clear hf7 hb7)
        | (refine Zm Qbd [.int .i64 who,.int .i64 id,.slice A7 lo.length c7] (.slice (some ⟨w7.heap.size,0,none⟩) 1 1) (HOW7.o.alloc _) (Sl.lit rfl (by unfold maxLen;omega)) rfl rfl rfl rfl (Q5 (a:=.int .i64 who) (b:=.int .i64 id) (c:=.slice A7 lo.length c7) rfl rfl rfl) (by unfold maxLen;omega) (by omega) (Nat.zero_le _) ?_;intro v8 w8 hown8 hbel8 hgr8 hnew8;have HO8:=Hm hown8;obtain⟨A8,c8,rfl⟩:=Qg hown8;have HGR8:=Hm hgr8;have HNW8:=Hm hnew8;have hbk8:=(HBK7.o.alloc _).only (Zzz hgr8) (fun e=>(HL.o.apart.1 s.a (by rw[HV.o,HLN.o];exact e.symm)).1 rfl);obtain⟨y0,y1,y2⟩:=Qy hbk8;have yf:=hbk8.frozen;have yl:=hbk8.lt;rw[HV.o,HLN.o] at y1;clear hown8 hbel8 hgr8 hnew8 hbk8))
       all_goals
        go_wp2_with fail;go_ret;rw[HD3.o];have hok:=HL.o.ok.does who id (r:Int) op;rw[HD3.o] at hok;exact HL.o.push hok HB5.o HAT5.o HG5.o HE5.o HP5.o HO6.o HBK6.o (Qa HB7.o _) (HS7.o.below (Qa (Wac _ _) _)) HF7.o (by rw[HLN.o];exact HO8.o) (by rw[HV.o,HLN.o];exact HGR8.o) (fun k hk=>by rw[HV.o,HLN.o];exact HNW8.o k hk) rfl rfl
     ·have HD2:=Hm (HD1.o.trans (if_pos ha));have HAE:Hd (QC (apc lo S.doc)=Value.iface 29 (.int .i64 (apc lo S.doc))):=⟨if_neg ha⟩;clear ha
      go_wp2_with (first
       | (go_at_call 55;refine HTX.o.mono ?_;rintro e w3 ⟨rfl,hb3⟩;have HB3:=Hm hb3;clear hb3)
       | (go_at_call 94;refine (HAP _ HB3.o).out.mono ?_;rintro e w4 ⟨rfl,hb4⟩;rw[HAE.o];have HB4:=Hm (Qb (Qb HB.o HB3.o) hb4);clear hb4))
      go_ret;rw[HD2.o];exact Zc.same HL.o HB4.o (congrArg Ending.returned HAE.o.symm)
  ·have HC:=Hm hc;rw[← HNN.o] at HD0;have HD1:=Hm (HD0.o.trans (if_pos hc));have hee:QC (chk op (n:Int))=Value.iface 29 (.int .i64 (chk op (n:Int))):=if_neg hc;have HEE:=Hm hee;clear hc HD0 hee;go_wp2_with (go_at_call 92;refine HCK.o.mono ?_;rintro e w2 ⟨⟨ev,rfl,-,rfl⟩,hb2⟩;rw[HEE.o];have HB2:=Hm (Qb HB1.o hb2);clear hb2)
   go_ret;rw[HD1.o];exact Zc.same HL.o HB2.o (congrArg Ending.returned HEE.o.symm)
end
end
section
open Go.RowKit Go.Sort
theorem SV.does_last (S:SV)(who id rev:Int)(op:List PT):(S.does who id rev op).2.last=S.last∧(S.does who id rev op).2.tk=S.tk:=by
 unfold SV.does
 repeat' split
 all_goals exact⟨rfl,rfl⟩
theorem SrvR.stored {w w3 w4:World}{F:Nat→Prop}{s:SP}{S:SV}{M:Int→Option (Int × Int)}(h:SrvR w F s S)(hb:Below w.heap.size w w3)(hm:Mp w4 s.m (s.k+1) M)(ho:Only (fun k=>k=s.m) w3 w4) :
  SrvR w4 F { s with k:=s.k+1 } { S with last:=M,tk:=S.tk+1 }:=by
 have h3:=h.below hb;obtain⟨ap1,ap2⟩:=h3.apart;have hns:∀ j,j=s.m→F j:=fun j e=>h.sub j (.inr (.inr e))
 refine⟨⟨h3.ok.len,h3.ok.txt,h3.ok.step⟩,h3.blk.only ho ap2,h3.rope.only ho (fun e=>h3.rp.1 (hns _ e)) (fun b hb e=>h3.rp.2 b hb (hns _ e)),h3.good,h3.doc,h3.rp,Qt h3.own ho (fun k hk=>(ap1 k hk).2),h3.log,
  h3.ops.only (ho.mono (fun k _=>hns k)) (Grow.refl _ _),hm,by have:=h3.tk;dsimp only;omega,h3.sub,fun j hj=>Wal (h3.flt j hj) ho.size⟩
theorem Zc.fresh {w w1 w2 w3 w4:World}{F:Nat→Prop}{s s':SP}{S:SV}{who id rev:Int}{op:List PT}{c:Int}{e:Ending}(hb1:Below w.heap.size w w1)(ha:s'.a=s.a)(hm:s'.m=s.m)(ho:Only s.F w1 w2)(hg:Grow s.F s'.F w1.heap.size)
  (hS:∀ F',(∀ j,F' j→F j∨s'.F j)→(∀ j,s'.F j→F' j)→SrvR w2 F' s' (S.does who id rev op).2) (hb3:Below w2.heap.size w2 w3) (hm4:Mp w4 s'.m (s'.k+1) (JC (S.does who id rev op).2.last who (id,c))) (ho4:Only (fun k=>k=s'.m) w3 w4)
  (hc:c=(S.does who id rev op).1) (he:e=.returned (QC c)) (hsm:s.F s.m):Zc F s (S.fresh who id rev op) w e w4:=by
 obtain⟨l1,l2⟩:=S.does_last who id rev op;refine⟨{ s' with k:=s'.k+1 },ha,hm,(((Only.of_below hb1).trans ho).trans (Only.of_below hb3)).trans (ho4.mono (fun k _ e=>by rw[e,hm];exact hsm)),hg.mono hb1.size,?_,fun F' k1 k2=>?_⟩
 ·rw[he,hc];rfl
 ·have:=(hS F' k1 k2).stored hb3 hm4 ho4
  unfold SV.fresh;rw[l1] at this;rw[l2] at this;rw[hc] at this;exact this
theorem Qmf {w:World}{F:Nat→Prop}{s:SP}{S:SV}{who id rev:Int}{op:List PT}{v:Value}(h:SrvR w F s S)(hg:Zw F w)(hN:S.log.length≤1000)(hT:S.tk≤1000000000)(hwho:(Lit.int .i64 who).wf=true)(hxo:OpO F w v op)(hp:Qc op≤100000)(hn:op.length≤200000) :
  Calls prog 12 #[.pointer (some ⟨s.a,0,none⟩),.int .i64 who,.int .i64 id,.int .i64 rev,v] w (Zc F s (S.take who id rev op) w):=by
 obtain⟨z0,z1,z2⟩:=Qy h.blk;have HL:=Hm h;have HG:=Hm hg;have HX:=Hm hxo;have HW:=Hm hwho;have HP:=Hm hp;have HM:=Hm h.map;have HTK:=Hm hT;obtain⟨⟨Ax,cx,rfl,-⟩,-⟩:=hxo;clear h hg hwho hp z0 z1 hT;obtain⟨o,ho⟩:∃ o,o=S.last who:=⟨_,rfl⟩
 cases o with
 | none =>
  have HT:Hd (S.take who id rev op=S.fresh who id rev op):=⟨by unfold SV.take;rw[← ho]⟩;have HO:=Hm ho;clear ho;go_enter func12,ntmps12
  go_upto_region 9 with (first
   | (at_lookup;refine YL rfl rfl underlying104 (Jh _) rfl rfl HW.o HM.o ?_;rw[← HO.o];unfold prV)
   | (go_at_call 52;refine (Qht (HL.o.below (Qa (Wac _ _) _)) (HG.o.below (Qa (Wac _ _) _) (Grow.refl _ _)) hN (HX.o.below (Qa (Wac _ _) _) (Grow.refl _ _)) HP.o hn).mono ?_;rintro e w2 hd;obtain⟨s',ha,hm,ho2,hgr,rfl,hS⟩:=hd))
  have HS:=Hm hS;have HS1:=Hm (hS (fun j=>F j∨s'.F j) (fun _ e=>e) (fun _ e=>.inr e));have HA:=Hm ha;have HMM:=Hm hm;have HO2:=Hm ho2;have HGR:=Hm hgr;have HG2:Hd (Hdl w2):=⟨((HG.o.below (Qa (Wac _ _) _) (Grow.refl _ _)).only (F':=F) (ho2.mono (fun k _ e=>HL.o.sub k e)) (Grow.refl _ _)).1⟩;obtain⟨c,hc⟩:∃ c,c=(S.does who id rev op).1:=⟨_,rfl⟩;rw[← hc];have HC:=Hm hc;have hblk:=HS1.o.blk;rw[ha] at hblk;obtain⟨x0,x1,x2⟩:=Qy hblk;have xl:=hblk.lt;have HTKb:Hd (s'.k<maxLen):=⟨by have h1:=HS1.o.tk;have h2:=(S.does_last who id rev op).2;have h3:=HTK.o;unfold maxLen;omega⟩;clear hS ha hm ho2 hgr hc hblk x0 x1 z2;go_region_with (go_at_call 53;refine (Xh (Qds _ _) (HG2.o.below (Qe (Wac _ _)))).mono ?_;rintro e w3 ⟨rfl,hb3⟩;have HB3:=Hm ((Qe (Wac _ _)).trans hb3:Below w2.heap.size w2 w3);obtain⟨w4,hrun,hM4,hO4,hz4⟩:=(HS1.o.map.below HB3.o).store (a:=id) (c:=c) underlying104 HTKb.o HW.o;have y2:=HB3.o.cell (p:=⟨s.a,2,none⟩) xl;rw[x2] at y2;have HM4:=Hm hM4;have HO4:=Hm hO4;clear hb3 hM4 hO4)
  all_goals
   go_wp2_with fail;go_ret;rw[HT.o];exact Zc.fresh (Qa (Wac _ _) _) HA.o HMM.o HO2.o HGR.o HS.o HB3.o HM4.o HO4.o HC.o rfl (.inr (.inr rfl))
 | some p =>
  obtain⟨i,k⟩:=p
  by_cases h1:id<i
  ·have HT:Hd (S.take who id rev op=(8,S)):=⟨by unfold SV.take;rw[← ho];dsimp only;rw[if_pos h1]⟩;have h1b:id≤i:=by omega
   have HO:=Hm ho;clear ho;go_enter func12,ntmps12
   go_wp2_with (at_lookup;refine YL rfl rfl underlying104 (Jh _) rfl rfl HW.o HM.o ?_;rw[← HO.o];unfold prV)
   go_ret;rw[HT.o];exact Zc.same HL.o (Qa (Wac _ _) _) rfl
  by_cases h2:id=i
  ·subst h2;have HT:Hd (S.take who id rev op=(k,S)):=⟨by unfold SV.take;rw[← ho];dsimp only;rw[if_neg h1,if_pos rfl]⟩;have HO:=Hm ho;clear ho
   by_cases hk:k=0
   ·subst hk;go_enter func12,ntmps12
    go_wp2_with (at_lookup;refine YL rfl rfl underlying104 (Jh _) rfl rfl HW.o HM.o ?_;rw[← HO.o];unfold prV)
    go_ret;rw[HT.o];exact Zc.same HL.o (Qa (Wac _ _) _) rfl
   ·have hkb:(k == 0)=false:=by rw[Waf];exact hk
    have HK:=Hm hk;clear hk;go_enter func12,ntmps12
    go_wp2_with (at_lookup;refine YL rfl rfl underlying104 (Jh _) rfl rfl HW.o HM.o ?_;rw[← HO.o];unfold prV)
    go_ret;rw[HT.o];exact Zc.same HL.o (Qa (Wac _ _) _) (congrArg Ending.returned (Yp HK.o).symm)
  ·have HT:Hd (S.take who id rev op=S.fresh who id rev op):=⟨by unfold SV.take;rw[← ho];dsimp only;rw[if_neg h1,if_neg h2]⟩;have h3:¬ id≤i:=by omega
   have HO:=Hm ho;clear ho h1 h2;go_enter func12,ntmps12
   go_upto_region 9 with (first
    | (at_lookup;refine YL rfl rfl underlying104 (Jh _) rfl rfl HW.o HM.o ?_;rw[← HO.o];unfold prV)
    | (go_at_call 52;refine (Qht (HL.o.below (Qa (Wac _ _) _)) (HG.o.below (Qa (Wac _ _) _) (Grow.refl _ _)) hN (HX.o.below (Qa (Wac _ _) _) (Grow.refl _ _)) HP.o hn).mono ?_;rintro e w2 hd;obtain⟨s',ha,hm,ho2,hgr,rfl,hS⟩:=hd))
   have HS:=Hm hS;have HS1:=Hm (hS (fun j=>F j∨s'.F j) (fun _ e=>e) (fun _ e=>.inr e));have HA:=Hm ha;have HMM:=Hm hm;have HO2:=Hm ho2;have HGR:=Hm hgr;have HG2:Hd (Hdl w2):=⟨((HG.o.below (Qa (Wac _ _) _) (Grow.refl _ _)).only (F':=F) (ho2.mono (fun k _ e=>HL.o.sub k e)) (Grow.refl _ _)).1⟩;obtain⟨c,hc⟩:∃ c,c=(S.does who id rev op).1:=⟨_,rfl⟩;rw[← hc];have HC:=Hm hc;have hblk:=HS1.o.blk;rw[ha] at hblk;obtain⟨x0,x1,x2⟩:=Qy hblk;have xl:=hblk.lt;have HTKb:Hd (s'.k<maxLen):=⟨by have h1:=HS1.o.tk;have h2:=(S.does_last who id rev op).2;have h3:=HTK.o;unfold maxLen;omega⟩;clear hS ha hm ho2 hgr hc hblk x0 x1 z2;go_region_with (go_at_call 53;refine (Xh (Qds _ _) (HG2.o.below (Qe (Wac _ _)))).mono ?_;rintro e w3 ⟨rfl,hb3⟩;have HB3:=Hm ((Qe (Wac _ _)).trans hb3:Below w2.heap.size w2 w3);obtain⟨w4,hrun,hM4,hO4,hz4⟩:=(HS1.o.map.below HB3.o).store (a:=id) (c:=c) underlying104 HTKb.o HW.o;have y2:=HB3.o.cell (p:=⟨s.a,2,none⟩) xl;rw[x2] at y2;have HM4:=Hm hM4;have HO4:=Hm hO4;clear hb3 hM4 hO4)
   all_goals
    go_wp2_with fail;go_ret;rw[HT.o];exact Zc.fresh (Qa (Wac _ _) _) HA.o HMM.o HO2.o HGR.o HS.o HB3.o HM4.o HO4.o HC.o rfl (.inr (.inr rfl))
end
section
open Go.RowKit Go.Sort
theorem Blk.sets {g:Nat}{t:TypeId}:∀ (vs:List Value) (o:Nat) (w:World) (cs:Array Value),Blk w g t cs→o+vs.length≤cs.size →
  ∃ cs',Blk (w.setCells g o vs) g t cs'∧cs'.size=cs.size∧cs'.toList=cs.toList.take o++vs++cs.toList.drop (o+vs.length)
 | [],o,w,cs,h,_=>⟨cs,h,rfl,by simp⟩
 | v :: vs,o,w,cs,h,hl=>by
  rw[Wan] at hl;obtain⟨cs',h1,h2,h3⟩:=Blk.sets vs (o+1) (w.setCell ⟨g,o,none⟩ v) _ (h.set_ o v) (by simp;omega);refine⟨cs',h1,by rw[h2];simp,?_⟩;rw[h3,Array.toList_setIfInBounds];have hlt:o<cs.toList.length:=by simp;omega
  rw[Wan,Wag (by simpa using hlt),List.take_set,List.getElem_set_self,List.drop_set_of_lt (by omega),show o+1+vs.length=o+(vs.length+1) from by omega,List.set_eq_of_length_le (by rw[Wbb];exact Nat.min_le_left _ _)];simp
theorem Only.sets {g:Nat}:∀ (vs:List Value) (o:Nat) (w w0:World),Only (fun j=>j=g) w0 w→Only (fun j=>j=g) w0 (w.setCells g o vs)
 | [],_,_,_,h=>h
 | v :: vs,o,_,_,h=>Only.sets vs (o+1) _ _ (h.setCell (p:=⟨g,o,none⟩) (.inl rfl) v)
theorem Qoq {P:Program}(w:World)(t e ty:TypeId)(z:Value)(zs:List Value)(ht:P.underlying t=some (.slice e))(hv:∀ w,(zeroValue e).run P w=.ok z w)(hz:(Builtin.zeroCells z.cells 1).toList=zs)(h1:∀ v∈zs,v.oneCell'=true)(b o c:Nat)
  (hc:∀ j,j<zs.length→(w.cell? ⟨b,o+j,none⟩).isSome=true) (hf:∀ j,j<zs.length→w.frozen? ⟨b,o+j,none⟩=false) :
  (Builtin.clear_ #[t] ty #[.slice (some ⟨b,o,none⟩) 1 c]).run P w=.ok (.tuple #[]) (w.setCells b o zs):=by
 have hst:=run_storeCells_cells (P:=P) b o zs 0 w (by simpa using hc) (by simpa using hf) h1;simp only[Nat.add_zero] at hst;simp[Builtin.clear_,run_underlying ht,hv,hz,hst]
def zPk:Value:=.agg #[.int .i64 0,.int .i64 0,.int .i64 0,.int .i64 0,.int .i64 0,.int .i64 0,.slice none 0 0]
theorem Qor (w:World):(zeroValue 158).run prog w=.ok zPk w:=Tryz.zeroValue158 w
def Yk:List Value:=[.int .i64 0,.int .i64 0,.int .i64 0,.int .i64 0,.int .i64 0,.int .i64 0,.slice none 0 0]
theorem Qos:(Builtin.zeroCells zPk.cells 1).toList=Yk:=by
 have h:zPk.cells=Yk.toArray:=by rfl
 rw[h];unfold Builtin.zeroCells Yk;simp[List.range,List.range.loop]
theorem Qot:∀ v∈Yk,v.oneCell'=true:=by
 intro v hv;simp only[Yk,Wbk,List.not_mem_nil,or_false] at hv;rcases hv with rfl | rfl | rfl | rfl | rfl | rfl | rfl<;>rfl
theorem Blk.have_ {w:World}{g:Nat}{t:TypeId}{cs:Array Value}(h:Blk w g t cs){i:Nat}(hi:i<cs.size):(w.cell? ⟨g,i,none⟩).isSome=true:=by rw[h.cell,Array.getElem?_eq_getElem hi];rfl
theorem Qou:∃ i,prog.info? 158=some i∧i.size=7:=⟨_,rfl,rfl⟩
theorem Qov {α:Type}{L A vs D:List α}{m:Nat}(hl:L=A.take m++vs++D)(h:m≤A.length):L.take m=A.take m:=by
 rw[hl,Wah,List.take_append_of_le_length (by rw[Wbb];omega),List.take_take,Nat.min_self]
theorem Qow {α:Type}{L cur xs R:List α}{i n:Nat}(hl:L=cur.take (i*7)++xs.drop ((i+1)*7)++R)(hc:cur.take (n*7)=xs)(hx:xs.length=n*7)(hi:i<n):L.take ((n-1)*7)=xs.take (i*7)++xs.drop ((i+1)*7):=by
 have hcl:n*7≤cur.length:=by rw[← hx,← hc,Wbb];omega
 have e1:(cur.take (i*7)).length=i*7:=by rw[Wbb];omega
 have e2:xs.take (i*7)=cur.take (i*7):=by rw[← hc,List.take_take];congr 1;omega
 have e3:(xs.drop ((i+1)*7)).length=(n-1-i)*7:=by rw[War,hx];omega
 have e4:(cur.take (i*7)++xs.drop ((i+1)*7)).length=(n-1)*7:=by rw[Wad,e1,e3];omega
 rw[hl,e2,List.take_append_of_le_length (by omega),List.take_of_length_le (by omega)]
def Qox (w:World)(g n cap i:Nat)(xs:List Value)(e:Ending)(w':World):Prop :=
 e=.returned (.slice (some ⟨g,0,none⟩) (n-1) cap)∧w'.ownsRow 0 158 7 (.slice (some ⟨g,0,none⟩) (n-1) cap) (n-1) (xs.take (i*7)++xs.drop ((i+1)*7))∧Only (fun j=>j=g) w w'
theorem Qgx {w:World}{g n cap i:Nat}{xs:List Value}(hown:w.ownsRow 0 158 7 (.slice (some ⟨g,0,none⟩) n cap) n xs)(h1:∀ u∈xs,u.oneCell'=true)(hi:i<n) :
  Calls prog 86 #[.slice (some ⟨g,0,none⟩) n cap,.int .i64 i,.int .i64 ((i:Int)+1)] w (Qox w g n cap i xs):=by
 obtain⟨hxl,h | ⟨g',cap',cur,hv,-,hb,hnc,hcm,hcs,hcur⟩⟩:=hown
 ·exact absurd h.1 (by simp)
 cases hv
 obtain⟨i0,hi0,hz1⟩:=Qou;have hB:Blk w g 158 cur:=hb;obtain⟨news,hnews⟩:∃ news,news=xs.drop ((i+1)*7):=⟨_,rfl⟩;have hlen:news.length=(n-(i+1))*7:=by rw[hnews,War,hxl];omega
 have hBd:Blk w.drew g 158 cur:=hb
 have hxget:∀ t u,xs[t]?=some u→w.drew.cell? ⟨g,t,none⟩=some u:=fun t u hu=>by
  rw[hBd.cell,← Array.getElem?_toList];have ht:=(Wai.1 hu).1;rw[← hcur,List.getElem?_take_of_lt (by omega)] at hu;exact hu
 obtain⟨A,hA,hsrc⟩:∃ A:Addr,(if cap=i+1 then some (⟨g,0,none⟩:Addr) else some ⟨g,(i+1)*7,none⟩)=some A∧Hd (∀ t u,news[t]?=some u→w.drew.cell? (A.add t)=some u):=by
  by_cases h:cap=i+1
  ·refine⟨⟨g,0,none⟩,by simp[h],⟨fun t u hu=>?_⟩⟩;have h0:news.length=0:=by rw[hlen];omega
   rw[List.length_eq_zero_iff.1 h0] at hu;simp at hu
  ·refine⟨⟨g,(i+1)*7,none⟩,by simp[h],⟨fun t u hu=>?_⟩⟩;rw[Qr];rw[hnews,List.getElem?_drop] at hu;exact hxget _ u hu
 have S1:=Hm hlen;have S2:Hd (∀ u∈news,u.oneCell'=true):=⟨fun u hu=>h1 u (by rw[hnews] at hu;exact List.mem_of_mem_drop hu)⟩;have S3:Hd (∀ t,t<news.length→(w.drew.cell? ⟨g,0+i*7+t,none⟩).isSome=true∧w.drew.frozen? ⟨g,0+i*7+t,none⟩=false):=⟨fun t ht=>⟨hBd.have_ (by omega),hBd.frozen _⟩⟩;obtain⟨W1,hW1⟩:∃ W1,W1=w.drew.setCells g (0+i*7) news:=⟨_,rfl⟩;obtain⟨cs1,hB1,hz1',hc1⟩:=Blk.sets news (0+i*7) w.drew cur hBd (by rw[hlen];omega);rw[← hW1] at hB1;have em:i+(n-(i+1))=n-1:=by omega
 have hcl:∀ ty,(Builtin.clear_ #[130] ty #[.slice (some ⟨g,(i+(n-(i+1)))*7,none⟩) (n-(i+(n-(i+1)))) (cap-(i+(n-(i+1))))]).run prog W1=.ok (.tuple #[]) (W1.setCells g ((i+(n-(i+1)))*7) Yk):=fun ty=>by
  rw[em,show n-(n-1)=1 from by omega];exact Qoq W1 _ _ ty zPk Yk underlying130 Qor Qos Qot g _ _ (fun j hj=>hB1.have_ (by have:j<7:=hj;omega)) (fun j hj=>hB1.frozen _)
 have HW1:=Hm hW1
 have HFIN:Hd ((W1.setCells g ((n-1)*7) Yk).ownsRow 0 158 7 (.slice (some ⟨g,0,none⟩) (n-1) cap) (n-1) (xs.take (i*7)++xs.drop ((i+1)*7))∧Only (fun j=>j=g) w (W1.setCells g ((n-1)*7) Yk)):=⟨by
  obtain⟨cs2,hB2,hz2,hc2⟩:=Blk.sets Yk ((n-1)*7) W1 cs1 hB1 (by show (n-1)*7+7≤_;omega);have ho1:Only (fun j=>j=g) w W1:=by rw[hW1];exact Only.sets news (0+i*7) w.drew w (Only.refl _ w).drew
  have hO2:=Only.sets Yk ((n-1)*7) W1 w ho1;have hz7:cs2.size=cap*7:=by omega
  refine⟨⟨?_,Or.inr ⟨g,cap,cs2,rfl,Nat.zero_le _,hB2,by omega,hcm,hz7,?_⟩⟩,hO2⟩
  ·have e3:(xs.drop ((i+1)*7)).length=(n-1-i)*7:=by rw[War,hxl];omega
   have e4:(xs.take (i*7)).length=i*7:=by rw[Wbb,hxl];omega
   rw[Wad,e3,e4];omega
  ·rw[Qov hc2 (by rw[Array.length_toList];omega)];rw[Nat.zero_add,hnews] at hc1;exact Qow hc1 hcur hxl hi⟩
 have hic:i≤cap:=by omega
 have hj0:0≤(i:Int)+1:=by omega
 have hj1:(i:Int)+1≤(n:Int):=by omega
 have EM:=Hm em;clear em hW1 hB1 hz1' hc1 hnews hlen hxget hBd hB hb hcur hcs hxl h1;go_enter func86,ntmps86
 go_wp2_with fail;go_region_law (refine step_append_room rfl (.tmp 22) (.tmp 25) 130 rfl 158 i0 7 underlying130 hi0 hz1 g 0 i cap (by simp[Act.eval,Act.put]) A (n-(i+1)) (cap-(i+1)) news (by simp[Act.eval,Act.put]) S1.out hsrc.out S2.out (by omega) S3.out ?_;rw[← HW1.o])
 go_wp2
 go_ret;rw[EM.out]
 exact⟨rfl,HFIN.o⟩
end
section
open Go.RowKit Go.Sort
def Qmg (rs:List Int)(rest:U.Bs)(w:World)(e:Ending)(w':World):Prop :=
 Below w.heap.size w w'∧(rest≠[]→∃ g,e=.returned (.tuple #[.pointer none,atV g])∧QV w' g 3 (bl rs)) ∧
  (rest=[]→2000<bl rs→e=.returned (.tuple #[.pointer none,errno 12])) ∧
  (rest=[]→bl rs≤2000→∃ s:SP,e=.returned (.tuple #[.pointer (some ⟨s.a,0,none⟩),.nilIface])∧(∀ j,s.F j→w.heap.size≤j)∧w.heap.size≤s.p∧SrvR w' s.F s (SV.new (U.encs rs)))
theorem Qmh {s:U.Bs}{rs:List Int}{rest:U.Bs}(hsp:U.Sp s rs rest)(hs:s.length≤1000000)(w:World) :
  Calls prog 7 #[.string ⟨s.toArray⟩] w (Qmg rs rest w):=by
 have HC:=Hm (Xw hsp w (by omega));have HALL:=Hm hsp.all;have hmm:=@run_makeMap prog;have hoff:U.off rs rs.length=bl rs:=U.off_full rs;have HOF:=Hm hoff
 by_cases hr:rest=[]
 ·subst hr;obtain rfl:s=U.encs rs:=by have:=hsp.eq;simpa using this
  have hlen:(U.encs rs).length=bl rs:=rfl;have HLEN:=Hm hlen;have HN:=fun W=>Hm (Qce hsp W hs)
  by_cases hbl:2000<bl rs
  ·have hi:(2000:Int)<((U.encs rs).length:Int):=by show (2000:Int)<(bl rs:Int);omega
   have HBL:=Hm hbl;clear hsp hoff hlen hbl hs;go_enter func7,ntmps7
   go_wp2_with (go_at_call 21;refine HC.o.mono ?_;rintro e w1 ⟨hb1,hok,-⟩;obtain rfl:=hok rfl;have HB1:=Hm hb1;clear hb1 hok)
   go_ret2
   exact⟨Qa HB1.o _,fun h=>absurd rfl h,fun _ _=>rfl,fun _ h=>absurd HBL.o (by omega)⟩
  ·have hi:¬ ((2000:Int)<((U.encs rs).length:Int)):=by show ¬ ((2000:Int)<(bl rs:Int));omega
   have HBL:Hd (bl rs≤2000):=⟨by omega⟩;clear hsp hoff hlen hbl hs;go_enter func7,ntmps7
   go_wp2_with (first
    | (go_at_call 21;refine HC.o.mono ?_;rintro e w1 ⟨hb1,hok,-⟩;obtain rfl:=hok rfl;have HB1:=Hm (Qa hb1 (.cells #[.int .i64 (cnt rs).b,.int .i64 (cnt rs).h,.int .i64 (cnt rs).r,.int .i64 (cnt rs).l] 63));clear hb1 hok)
    | (go_at_call 48;refine (HN _).out.mono ?_;rintro e w5 ⟨hb5,-,-,h5⟩;obtain⟨p5,t5,rfl,hat5,hg5,hr5,hp5,ht5⟩:=h5 rfl (by have:=HBL.o;omega);have HB5:=Hm (Qb HB1.o hb5);have HAT5:=Hm hat5;have HG5:=Hm hg5;have HE5:=Hm hr5;have HP5:=Hm (Wao (Wbf HB1.o.size hp5) (fun i hi=>Wbf HB1.o.size (ht5 i hi)));clear hb5 h5 hat5 hg5 hr5 hp5 ht5))
   go_ret2;have hz5:=HB5.o.size;have hx:Below w5.heap.size w5 ((w5.alloc (.map #[] 0)).alloc (.cells #[.pointer (some ⟨p5,0,none⟩),.slice none 0 0,.map (some w5.heap.size)] 106)):=Qa (Qa (Wac _ _) _) _;have hlp:=HAT5.o.blk.lt
   have hF:∀ j,(SP.mk (w5.heap.size+1) p5 t5 (.slice none 0 0) w5.heap.size 0 []).F j→j=w5.heap.size∨j=w5.heap.size+1:=by
    rintro j (e | e | e)
    ·exact .inr e
    ·cases e
    ·exact .inl e
   refine⟨HB5.o.trans (hx.mono hz5),fun h=>absurd rfl h,fun _ h=>absurd h (by have:=HBL.o;omega),fun _ _=>⟨⟨w5.heap.size+1,p5,t5,.slice none 0 0,w5.heap.size,0,[]⟩,?_,fun j hj=>by rcases hF j hj with e | e<;>omega,HP5.o.1,?_⟩⟩
   ·simp
   ·refine⟨SVok.new HALL.o HBL.o,?_,HAT5.o.below hx,HG5.o,by rw[HE5.o];rfl,⟨fun e=>by rcases hF _ e with e | e<;>(dsimp only at e;omega),fun b hb e=>by have:=HAT5.o.tree.lt b hb;rcases hF _ e with e | e<;>omega⟩,World.ownsRow_nil _ _ _ _,rfl,fun x hx=>by simp at hx,?_,Wak _,fun _ h=>h,fun j hj=>?_⟩
    ·have:=Blk.new (w5.alloc (.map #[] 0)) 106 #[.pointer (some ⟨p5,0,none⟩),.slice none 0 0,.map (some w5.heap.size)]
     rw[Waq] at this;exact this
    ·exact (Mp.new w5).below (Qa (Wac _ _) _)
    ·rcases hF j hj with e | e<;>(simp;omega)
 ·have HRR:=Hm hr;clear hsp hoff hs hr;go_enter func7,ntmps7
  go_wp2_with (go_at_call 21;refine HC.o.mono ?_;rintro e w1 ⟨hb1,-,hok⟩;obtain⟨g,rfl,hg⟩:=hok HRR.o;have HB1:=Hm hb1;have HG:=Hm hg;clear hb1 hok hg)
  go_ret2;refine⟨Qa HB1.o _,fun _=>⟨g,rfl,?_⟩,fun h=>absurd h HRR.o,fun h=>absurd h HRR.o⟩;rw[← HOF.o];exact HG.o.below (Qa (Wac _ _) _)
end
section
open Go.RowKit Go.Sort
theorem Qhq:El prog 47 94 3 40:=El.mk' underlying47 (by kernel_rfl) (by decide)
structure RSP where
 a:Nat
 vd:Value
 ve:Value
 m:Nat
 k:Nat
 L:List (EN × Value)
def RSP.F (s:RSP)(j:Nat):Prop:=j=s.a∨s.vd.ownBlock=some j∨s.ve.ownBlock=some j∨j=s.m
structure RSrvR (w:World)(F:Nat→Prop)(s:RSP)(S:SV):Prop where
 ok:SVok S
 blk:Blk w s.a 50 #[s.vd,s.ve,.map (some s.m)]
 docs:w.ownsRow 0 9 1 s.vd S.docs.length (strs S.docs)
 own:w.ownsRow 0 94 3 s.ve s.L.length (ens s.L)
 log:s.L.map Prod.fst=S.log
 ops:EnO F w s.L
 map:Mp w s.m s.k S.last
 tk:s.k≤S.tk
 sub:∀ j,s.F j→F j
 flt:∀ j,F j→j<w.heap.size
section
variable {w w':World}{F F' G:Nat→Prop}{s:RSP}{S:SV}
theorem RSrvR.len (h:RSrvR w F s S):s.L.length=S.log.length:=by rw[← h.log,Wbi]
theorem RSrvR.only (h:RSrvR w F s S)(ho:Only G w w')(hG:∀ j,G j→F j)(hs:∀ j,s.F j→¬ G j)(hF:Grow F F' w.heap.size)(hs':∀ j,s.F j→F' j)(hl:∀ j,F' j→j<w'.heap.size):RSrvR w' F' s S :=
 ⟨h.ok,h.blk.only ho (hs _ (.inl rfl)),Qt h.docs ho (fun _ hk=>hs _ (.inr (.inl hk))),Qt h.own ho (fun _ hk=>hs _ (.inr (.inr (.inl hk)))),h.log,
  h.ops.only (ho.mono (fun k _=>hG k)) hF,h.map.only ho (hs _ (.inr (.inr (.inr rfl)))),h.tk,hs',hl⟩
theorem RSrvR.below (h:RSrvR w F s S)(hb:Below w.heap.size w w'):RSrvR w' F s S:=h.only (G:=fun _=>False) (Only.of_below hb) (fun _ e=>e.elim) (fun _ _ e=>e) (Grow.refl _ _) h.sub (fun j hj=>Wal (h.flt j hj) hb.size)
theorem RSrvR.lt (h:RSrvR w F s S):∀ j,s.F j→j<w.heap.size:=fun j hj=>h.flt j (h.sub j hj)
theorem Qcz {base:Nat}{e:TypeId}{size n:Nat}{v:Value}{xs:List Value}{k:Nat}(h:w.ownsRow base e size v n xs)(hk:v.ownBlock=some k):∃ cur,w.heap[k]?=some (.cells cur e (0,0)):=by
 rcases h.2 with ⟨e,-⟩ | ⟨g,cap,cur,e,-,hg,-⟩
 ·rw[e] at hk;cases hk
 ·rw[e] at hk
  cases hk
  exact⟨cur,hg⟩
theorem Qhr {w:World}{g k:Nat}{t e:TypeId}{cs cur:Array Value}(h:Blk w g t cs)(hk:w.heap[k]?=some (.cells cur e (0,0)))(ht:t≠e):k≠g:=fun e'=>by
 subst e';unfold Blk at h;rw[h] at hk
 cases hk
 exact ht rfl
theorem Qc0 {w:World}{k m:Nat}{e:TypeId}{cur:Array Value}{es:Array MapEntry}{clock:Nat}(h:w.heap[m]?=some (.map es clock))(hk:w.heap[k]?=some (.cells cur e (0,0))):k≠m:=fun e'=>by
 subst e';rw[h] at hk
 cases hk
theorem RSrvR.apart (h:RSrvR w F s S):(∀ k,s.vd.ownBlock=some k→k≠s.a∧k≠s.m∧s.ve.ownBlock≠some k)∧(∀ k,s.ve.ownBlock=some k→k≠s.a∧k≠s.m)∧s.a≠s.m:=by
 obtain⟨es,clock,hm⟩:=h.map.cap;refine⟨fun k hk=>?_,fun k hk=>?_,Qc0 hm h.blk⟩
 ·obtain⟨cur,hc⟩:=Qcz h.docs hk;refine⟨Qhr h.blk hc (by decide),Qc0 hm hc,fun e=>?_⟩;obtain⟨cur2,hc2⟩:=Qcz h.own e;rw[hc] at hc2;simp at hc2
 ·obtain⟨cur,hc⟩:=Qcz h.own hk
  exact⟨Qhr h.blk hc (by decide),Qc0 hm hc⟩
end
theorem Qc1 {w:World}{F:Nat→Prop}{s:RSP}{S:SV}(h:RSrvR w F s S)(hN:S.log.length≤1000):Calls prog 17 #[.pointer (some ⟨s.a,0,none⟩)] w fun e w'=>e=.returned (.string ⟨S.doc.toArray⟩)∧Below w.heap.size w w':=by
 obtain⟨z0,z1,z2⟩:=Qy h.blk;have hl:=h.ok.len;obtain⟨g,cap,hv,-,-⟩:=h.docs.form (by omega);have hd:=h.docs;rw[hv] at hd;have hc:=hd.cellAt S.log.length (by omega);rw[hv,hl] at z0;obtain⟨R,hR1,-,-,hR4⟩:=h.ok.doc_
 have hst:(strs S.docs)[S.log.length]?=some (.string ⟨S.doc.toArray⟩):=by
  unfold strs;rw[Wav,hR4,hR1];rfl
 rw[hst] at hc;have y1:IntKind.i64.wrap (((S.log.length+1:Nat):Int)-1)=(S.log.length:Int):=by rw[Waw]<;>omega
 have y1':IntKind.i64.wrap (((S.log.length:Nat):Int)+1-1)=(S.log.length:Int):=by rw[Waw]<;>omega
 have y2:(0:Int)≤(S.log.length:Int):=by omega
 have y3:(S.log.length:Int)<((S.log.length+1:Nat):Int):=by omega
 clear h hl hv hd hR1 hR4 hst z1 z2;go_enter func17,ntmps17
 go_wp2_with fail;go_quiet (fail)
 go_wp2_with fail;go_ret
 exact⟨rfl,Qh nq (Wac _ _)⟩
end
section
open Go.RowKit Go.Sort
def Zi (F:Nat→Prop)(s:RSP)(r:Int × SV)(w:World)(e:Ending)(w':World):Prop :=
 ∃ s':RSP,s'.a=s.a∧s'.m=s.m∧Only s.F w w'∧Grow s.F s'.F w.heap.size∧e=.returned (.int .i64 r.1)∧∀ F',(∀ j,F' j→F j∨s'.F j)→(∀ j,s'.F j→F' j)→RSrvR w' F' s' r.2
theorem Zi.same {F:Nat→Prop}{s:RSP}{S:SV}{w w':World}{c:Int}{e:Ending}(h:RSrvR w F s S)(hb:Below w.heap.size w w')(he:e=.returned (.int .i64 c)):Zi F s (c,S) w e w' :=
 ⟨s,rfl,rfl,Only.of_below hb,Grow.refl _ _,he,fun _ h1 h2=>h.only (G:=fun _=>False) (Only.of_below hb) (fun _ e=>e.elim) (fun _ _ e=>e) (fun j hj=>.inl ((h1 j hj).elim id (h.sub j))) h2 (fun j hj=>Wal (h.flt j ((h1 j hj).elim id (h.sub j))) hb.size)⟩
theorem RSrvR.push {w w5 w6 w7 w8:World}{F:Nat→Prop}{s:RSP}{S:SV}{who id:Int}{lo:List PT}{d:U.Bs}{v6 vo v8:Value}(h:RSrvR w F s S)
  (hok:SVok ⟨S.docs++[d],S.log++[⟨who,id,lo⟩],S.last,S.tk⟩) (h5:Below w.heap.size w w5) (hgr:w5.grownBy w6 s.vd.ownBlock) (hn6:∀ k,v6.ownBlock=some k→s.vd.ownBlock=some k∨w5.heap.size≤k)
  (h6:w6.ownsRow 0 9 1 v6 (S.docs.length+1) (strs S.docs++[.string ⟨d.toArray⟩])) (h7:Only (fun k=>k=s.a) w6 w7) (hb7:Blk w7 s.a 50 #[v6,s.ve,.map (some s.m)])
  {w7b:World} (h7b:Below w7.heap.size w7 w7b) (h8:w8.ownsRow 0 94 3 v8 (s.L.length+1) (ens s.L++ecv (⟨who,id,lo⟩,vo))) (hg8:w7b.grownBy w8 s.ve.ownBlock) (hn8:∀ k,v8.ownBlock=some k→s.ve.ownBlock=some k∨w7b.heap.size≤k)
  (hlo:OpO s.F w5 vo lo) (hloF:∀ ad n c,vo=.slice (some ad) n c→0<n→¬ F ad.block) {c:Int} (hc:c=0) {e:Ending} (he:e=.returned (.int .i64 0)):Zi F s (c,⟨S.docs++[d],S.log++[⟨who,id,lo⟩],S.last,S.tk⟩) w e (w8.setCell ⟨s.a,1,none⟩ v8):=by
 subst hc;obtain⟨ap1,ap2,ap3⟩:=h.apart;have hlt:=h.lt;have la:=hlt s.a (.inl rfl);have lm:=hlt s.m (.inr (.inr (.inr rfl)));have ld:=fun k hk=>hlt k (.inr (.inl hk))
 have lv:=fun k hk=>hlt k (.inr (.inr (.inl hk)))
 have z5:=h5.size;have z6:=hgr.size;have z7:=h7.size;have z7b:=h7b.size;have z8:=hg8.size;have o6:Only (fun k=>s.vd.ownBlock=some k) w5 w6:=(Zzz hgr).mono (fun k _ e=>e.symm);have o8:Only (fun k=>s.ve.ownBlock=some k) w7b w8:=(Zzz hg8).mono (fun k _ e=>e.symm);have o9:Only (fun k=>k=s.a) w8 (w8.setCell ⟨s.a,1,none⟩ v8):=(Only.refl (fun k=>k=s.a) w8).setCell (p:=⟨s.a,1,none⟩) (.inl rfl) _;have a5:Only s.F w w5:=Only.of_below h5
 have a69:Only s.F w5 (w8.setCell ⟨s.a,1,none⟩ v8) :=
  ((((o6.mono (fun _ _ e=>.inr (.inl e))).trans (h7.mono (fun _ _ e=>.inl e))).trans (Only.of_below h7b)).trans (o8.mono (fun _ _ e=>.inr (.inr (.inl e))))).trans (o9.mono (fun _ _ e=>.inl e))
 have hall:Only s.F w (w8.setCell ⟨s.a,1,none⟩ v8):=a5.trans a69;have l6:∀ k,v6.ownBlock=some k→k<w6.heap.size:=fun k hk=>(h6.lt k hk).2
 have l8:∀ k,v8.ownBlock=some k→k<w8.heap.size:=fun k hk=>(h8.lt k hk).2
 have n6:∀ k,v6.ownBlock=some k→k≠s.a∧k≠s.m∧s.ve.ownBlock≠some k:=fun k hk=>by
  rcases hn6 k hk with e | e
  ·exact ap1 k e
  ·exact⟨by omega,by omega,fun e2=>by have:=lv k e2;omega⟩
 refine⟨⟨s.a,v6,v8,s.m,s.k,s.L++[(⟨who,id,lo⟩,vo)]⟩,rfl,rfl,hall,?_,he,fun F' k1 k2=>?_⟩
 ·rintro j (e | e | e | e)
  ·exact .inl (.inl e)
  ·rcases hn6 j e with e | e
   ·exact .inl (.inr (.inl e))
   ·exact .inr (by omega)
  ·rcases hn8 j e with e | e
   ·exact .inl (.inr (.inr (.inl e)))
   ·exact .inr (by omega)
  ·exact .inl (.inr (.inr (.inr e)))
 have kG:∀ j,F' j→F j∨w5.heap.size≤j:=fun j hj=>by
  rcases k1 j hj with hj | hj
  ·exact .inl hj
  ·rcases hj with e | e | e | e
   ·exact .inl (h.sub j (.inl e))
   ·rcases hn6 j e with e | e
    ·exact .inl (h.sub j (.inr (.inl e)))
    ·exact .inr e
   ·rcases hn8 j e with e | e
    ·exact .inl (h.sub j (.inr (.inr (.inl e))))
    ·exact .inr (by omega)
   ·exact .inl (h.sub j (.inr (.inr (.inr e))))
 refine⟨hok,((hb7.below h7b hb7.lt).only o8 (fun e=>(ap2 _ e).1 rfl)).set_ 1 v8,?_,?_,?_,fun x hx=>?_,?_,h.tk,k2,fun j hj=>?_⟩
 ·have:strs (S.docs++[d])=strs S.docs++[.string ⟨d.toArray⟩]:=by simp[strs]
  rw[this,Wad];refine Qt (Qt (Qt (Qt h6 h7 (fun k hk=>(n6 k hk).1)) (Only.of_below (S:=fun _=>False) h7b) (fun _ _ e=>e)) o8 (fun k hk e=>(n6 k hk).2.2 e)) o9 (fun k hk=>(n6 k hk).1)
 ·have:(ens (s.L++[(⟨who,id,lo⟩,vo)]))=ens s.L++ecv (⟨who,id,lo⟩,vo):=by rw[Qje,Qjf]
  rw[this,Wad];refine Qt h8 o9 (fun k hk e=>?_);rcases hn8 k hk with e2 | e2
  ·exact (ap2 k e2).1 e
  ·omega
 ·rw[Wbo,h.log];rfl
 ·rcases List.mem_append.1 hx with hx | hx
  ·exact (h.ops x hx).only (hall.mono (fun k _=>h.sub k)) (fun j hj=>(kG j hj).imp_right (fun e=>by omega))
  ·obtain rfl:=Wbd.1 hx;exact OpO.only (F:=F) ⟨hlo.1,hloF⟩ (a69.mono (fun k _=>h.sub k)) kG
 ·exact ((((((h.map.below h5).only o6 (fun e=>(ap1 _ e).2.1 rfl)).only h7 (fun e=>ap3 e.symm)).below h7b).only o8 (fun e=>(ap2 _ e).2 rfl)).only o9 (fun e=>ap3 e.symm))
 ·rw[World.size_setCell];rcases k1 j hj with hj | hj
  ·have:=h.flt j hj;omega
  ·rcases hj with e | e | e | e
   ·dsimp only at e;omega
   ·have:=l6 j e;omega
   ·exact l8 j e
   ·dsimp only at e;omega
section
attribute [local go_sem] Qr
theorem Qe9 {w:World}{F:Nat→Prop}{s:RSP}{S:SV}{who id rev:Int}{op:List PT}{v:Value}(h:RSrvR w F s S)(hN:S.log.length≤1000)(hxo:OpO F w v op)(hp:Qc op≤100000)(_hn:op.length≤200000) :
  Calls prog 54 #[.pointer (some ⟨s.a,0,none⟩),.int .i64 who,.int .i64 id,.int .i64 rev,v] w (Zi F s (S.does who id rev op) w):=by
 obtain⟨z0,z1,z2⟩:=Qy h.blk;have hl:=h.len;have HL:=Hm h;have hx:=hxo.sl;have HX:=Hm hx;have HXO:=Hm hxo;have HLT:=Hm h.lt;have HP:=Hm hp;have HPP:Hd (∀ p∈op,p.put.length≤35184372087808):=⟨fun p hp'=>by have:=Z8 hp';omega⟩;obtain⟨A,c,hv⟩:=Qg h.own;obtain⟨g,cd,hvd,-,-⟩:=h.docs.form (by have:=h.ok.len;omega);rw[hv,hl] at z1;rw[hvd] at z0;have hsl:=Sl.of_own h.own;rw[hv,hl] at hsl;have HSL:=Hm hsl;have hsd:=h.docs;rw[hvd] at hsd;have HSD:=Hm hsd;have HLN:=Hm hl;have HV:=Hm hv;have HVD:=Hm hvd;have HDL:=Hm h.ok.len;have HIN:=fun a b c W=>Hm (Qeb a b c W)
 obtain⟨Ax,cx,rfl,-⟩:=hx;clear h hl hv hvd hsl hsd hp hxo
 by_cases h0:rev<0∨(S.log.length:Int)<rev
 ·have HD:Hd (S.does who id rev op=(2,S)):=⟨by unfold SV.does;rw[if_pos h0]⟩;have hdec:decide ((0:Int)≤rev∧rev≤(S.log.length:Int))=false:=by rw[decide_eq_false_iff_not];omega
  have HDEC:=Hm hdec;clear h0 hdec;go_enter func54,ntmps54
  go_wp2_with (go_at_call 69;refine (HIN _ _ _ _).out.mono ?_;rintro e w1 ⟨rfl,rfl⟩;rw[HDEC.o])
  go_ret;rw[HD.o];exact Zi.same HL.o (Wac _ _) rfl
 have hdec:decide ((0:Int)≤rev∧rev≤(S.log.length:Int))=true:=by rw[decide_eq_true_iff];omega
 have HDEC:=Hm hdec;clear hdec
 by_cases h300:300≤S.log.length
 ·have HD:Hd (S.does who id rev op=(4,S)):=⟨by unfold SV.does;rw[if_neg h0,if_pos h300]⟩;have h3:(300:Int)≤(S.log.length:Int):=by omega
  clear h0;go_enter func54,ntmps54
  go_wp2_with (go_at_call 69;refine (HIN _ _ _ _).out.mono ?_;rintro e w1 ⟨rfl,rfl⟩;rw[HDEC.o])
  go_ret;rw[HD.o];exact Zi.same HL.o (Wac _ _) rfl
 have h3:¬ ((300:Int)≤(S.log.length:Int)):=by omega
 obtain⟨r,rfl⟩:=Was (show 0≤rev by omega);have hrl:r≤S.log.length:=by omega
 have HD0:Hd (S.does who id (r:Int) op=if chk op (((S.docs[r]?).getD []).length:Nat)≠0 then (chk op (((S.docs[r]?).getD []).length:Nat),S)
   else if apc (Q7 op (S.log.drop r)) S.doc≠0 then (apc (Q7 op (S.log.drop r)) S.doc,S)
   else if 2000<(apr (Q7 op (S.log.drop r)) S.doc).length then (12,S)
   else (0,⟨S.docs++[apr (Q7 op (S.log.drop r)) S.doc],S.log++[⟨who,id,Q7 op (S.log.drop r)⟩],S.last,S.tk⟩)):=⟨by
  unfold SV.does;rw[if_neg h0,if_neg h300];rfl⟩
 obtain⟨R,hR1,hR2,hR3⟩:=HL.o.ok.at_ hrl;obtain⟨dr,hdr⟩:∃ d,d=(S.docs[r]?).getD []:=⟨_,rfl⟩;have hdr2:S.docs[r]?=some dr:=by rw[hdr,hR1];rfl
 have hnb:dr.length≤2000:=by rw[hdr,hR1];exact hR3
 have hnn:dr.length=((S.docs[r]?).getD []).length:=by rw[hdr]
 have HNN:=Hm hnn;rw[← hnn] at HD0;have hrd:r<S.docs.length:=by have:=HDL.o;omega
 have hcs:=HSD.o.cellAt r (by omega);rw[show (strs S.docs)[r]?=some (.string ⟨dr.toArray⟩) from by unfold strs;rw[Wav,hdr2];rfl] at hcs;have HCK:=Hm (XJ (m:=(dr.length:Int)) HX.o HPP.o (by omega));have hrp:(0:Int)≤(r:Int):=by omega
 have hrd':(r:Int)<(S.docs.length:Int):=by omega
 clear hdr hdr2 hnn hR1 hR2 hR3 h300 h0
 by_cases hc:chk op (dr.length:Int)=0
 ·have HC:=Hm hc;have HD1:=Hm (HD0.o.trans (if_neg (fun h=>h hc)));have HCE:=Hm hc;clear hc HD0;have HEL:Hd ((ens s.L).drop (r*3)=ens (s.L.drop r)):=⟨(Qd2 _ _).symm⟩;go_enter func54,ntmps54
  go_wp2_with (first
   | (go_at_call 69;refine (HIN _ _ _ _).out.mono ?_;rintro e w1 ⟨rfl,rfl⟩;rw[HDEC.o])
   | (go_at_call 96;refine HCK.o.mono ?_;rintro e w2 ⟨rfl,hb2⟩;rw[HCE.o];have HB2:=Hm hb2;have x1:=hb2.cell (p:=⟨s.a,1,none⟩) HL.o.blk.lt;rw[z1] at x1;clear hb2)
   | (refine Qcy Qhq (k:=r) rfl rfl rfl rfl (HSL.o.below HB2.o) hrl ?_;intro A1 c1 hs1 hb1;rw[HEL.o] at hs1;have HS1:=Hm hs1;clear hs1 hb1))
  clear x1 z0 z1 z2 hcs
  go_loopw [4,50] (fun vo i wr=>∃ (k:Nat) (lo:List PT),k≤S.log.length-r∧i=.int .i64 k∧lo=Q7 op ((S.log.drop r).take k)∧OpO F wr vo lo∧Below w2.heap.size w2 wr) (fun _ i _=>(S.log.length-r)-(intOf i).toNat)
  case atStart=>exact⟨0,op,Nat.zero_le _,rfl,rfl,HXO.o.below HB2.o (Grow.refl _ _),Wac _ _⟩
  case round =>
   obtain⟨k,lo,hk,rfl,hlo,hso,hbel⟩:=hrel;have HW2:=Hm hbel;have HB:=Hm (Qb HB2.o hbel);have HOO:=Hm hso;have hso:=hso.sl;have HSO:=Hm hso;obtain⟨fg1,fg2,fg3⟩:=Qif HL.o.ok (r:=r) (op:=op) (by rw[← HNN.o];exact HC.o) k (by omega)
   rw[← hlo] at fg1 fg2 fg3
   by_cases hkn:k<S.log.length-r
   ·have hkl:k<(s.L.drop r).length:=by rw[War,HLN.o];exact hkn
    obtain⟨b,o,c',hv,hbw,c0,c1',c2⟩:=(HS1.o.below hbel).entry hkn hkl
    cases hv
    have hxl:(s.L.drop r)[k]∈s.L:=List.mem_of_mem_drop (Wau hkl);have hse:=(HL.o.ops _ hxl).1
    have hlog:S.log[r+k]?=some ((s.L.drop r)[k]).1:=by
     rw[← HL.o.log,Wav,← List.getElem?_drop,Waj hkl];rfl
    have hstep:Q7 op ((S.log.drop r).take (k+1))=trl false lo ((s.L.drop r)[k]).1.op:=by
     have hk3:k<(S.log.drop r).length:=by rw[War];exact hkn
     rw[Wag hk3,Qa1,← hlo]
     have:(S.log.drop r)[k]=((s.L.drop r)[k]).1:=by
      have h1:(S.log.drop r)[k]?=some ((s.L.drop r)[k]).1:=by rw[List.getElem?_drop];exact hlog
      rw[Waj hk3] at h1;exact Wbg h1
     rw[this]
    obtain⟨g1,g2,g3,g4,g5,g6,g7⟩:=HL.o.ok.good hlog;generalize (s.L.drop r)[k]=xr at *;have hd2000:was lo≤2000:=by rw[fg2,← g2];exact g5
    have HTC:=Hm (Qa2 (n:=((S.docs[r+k]?).getD []).length) fg1 g1 fg2 g2 (by omega));have HM1:=Hm (J6 fg1 (by omega) (by rw[fg3];exact HP.o));have HM2:=Hm (J6 g1 (by omega) (by omega));have HST:=Hm hstep;have HSE:=Hm (hse.below HB.o);obtain⟨Ae,ce,hxe,-⟩:=hse;rw[hxe] at c2 HSE;obtain⟨Ao,co,rfl,-⟩:=hso;have hkb:k<1000:=by omega
    clear hlo fg1 fg2 fg3 hxl hlog g1 g2 g3 g4 g5 g6 g7 hstep hd2000 hxe hbel hkl;generalize xr.1.op=le at *;generalize xr.1.who=xw at *;generalize xr.1.id=xi at *;go_wp2_with (go_at_call 97;refine (Qgb (first:=false) (HSO.o.below (Qa (Wac _ _) _)) (HSE.o.below (Qa (Wac _ _) _)) HM1.o HM2.o).mono ?_;rintro e w9 ⟨⟨hb9,v9,rfl,hs9,-⟩,hf9⟩;have HS9:=Hm (hs9 HTC.o);have HF9:=Hm ((hf9 _ _ rfl).mono (B':=w.heap.size) (by simp only[Waq];have:=HB.o.size;omega));clear hf9;rw[HTC.o];have HB9:=Hm ((Qa (Wac _ _) _).trans (hb9.mono (by simp)):Below wr.heap.size wr w9);obtain⟨A9,c9,rfl,-⟩:=HS9.o;clear hs9 hb9)
    exact⟨⟨k+1,trl false lo le,by omega,by go_num,HST.o.symm,OpO.frs HS9.o HF9.o HL.o.flt,HW2.o.trans (HB9.o.mono HW2.o.size)⟩,by simp only[intOf];omega⟩
   ·obtain rfl:k=S.log.length-r:=by omega
    rw[List.take_of_length_le (by rw[War];omega)] at hlo;rw[show r+(S.log.length-r)=S.log.length from by omega] at fg2;rw[← hlo] at HD1;have HLO:=Hm hlo;obtain⟨R,hR1,hR2,hR3,hR4⟩:=HL.o.ok.doc_;have hdl:S.doc.length≤2000:=by rw[hR1];exact hR3
    have hc0:=Qy (HL.o.blk.below HB.o HL.o.blk.lt);obtain⟨z0,z1,z2⟩:=hc0;have HTX:=Hm (Qc1 (HL.o.below HB.o) hN);have HPL:Hd (Qc lo≤100000):=⟨by rw[fg3];exact HP.o⟩;have HAP:=fun (W:World) (hW:Below wr.heap.size wr W)=>Hm (Qih (s:=S.doc) (HSO.o.below hW) (fun p hp'=>by have:=Z8 hp';have:=HPL.o;omega) (by have:=HPL.o;omega) (by omega))
    have HFG:=Hm fg1;obtain⟨Ao,co,rfl,-⟩:=hso;have HR1:=Hm hR1;clear fg1 fg2 fg3 hbel hR4 hlo hR1
    by_cases ha:apc lo S.doc=0
    ·have HD2:=Hm (HD1.o.trans (if_neg (fun h=>h ha)));have HAE:=Hm ha;rw[HR1.o] at ha;obtain⟨X,hX⟩:=Qaz hR2 ha;have hall:=QT hX.allP hR2;have hap:=(hX.apply hR2).2;rw[← HR1.o] at hap;obtain⟨R2,hR2e⟩:∃ x,x=rap X R:=⟨_,rfl⟩;rw[← hR2e] at hap hall;have HAQ:=Hm hap;clear ha hap hall hX hR2e
     by_cases h20:2000<bl R2
     ·have hi:(2000:Int)<((U.encs R2).length:Int):=by show (2000:Int)<(bl R2:Int);omega
      have HD3:=Hm (HD2.o.trans (if_pos (by rw[HAQ.o];exact h20)));clear h20
      go_wp2_with (first
       | (go_at_call 17;refine HTX.o.mono ?_;rintro e w3 ⟨rfl,hb3⟩;have HB3:=Hm hb3;clear hb3)
       | (go_at_call 79;refine (HAP _ HB3.o).out.mono ?_;rintro e w4 ⟨rfl,hb4⟩;rw[HAE.o,HAQ.o];have HB4:=Hm (Qb (Qb HB.o HB3.o) hb4);clear hb4))
      go_ret;rw[HD3.o];exact Zi.same HL.o HB4.o rfl
     ·have hi:¬ ((2000:Int)<((U.encs R2).length:Int)):=by show ¬ ((2000:Int)<(bl R2:Int));omega
      have HD3:=Hm (HD2.o.trans (if_neg (by rw[HAQ.o];exact h20)));have HBL:Hd (bl R2≤2000):=⟨by omega⟩;rw[HAQ.o] at HD3;clear h20;have HAPT:=HL.o.apart;have HAPH:=Hm HAPT;clear HAPT;have how:=HL.o.docs;rw[HVD.o] at how;have HOWD:=Hm how;have hoe:=HL.o.own;rw[HV.o,HLN.o] at hoe;have HOWE:=Hm hoe;have hdb:S.docs.length≤1001:=by have:=HDL.o;omega
      clear how hoe
      go_upto_region 19 with (first
       | (go_at_call 17;refine HTX.o.mono ?_;rintro e w3 ⟨rfl,hb3⟩;have HB3:=Hm hb3;clear hb3)
       | (go_at_call 79;refine (HAP _ HB3.o).out.mono ?_;rintro e w4 ⟨rfl,hb4⟩;rw[HAE.o,HAQ.o];have HB4:=Hm (Qb (Qb HB.o HB3.o) hb4);have HR4:=Hm (Qb HB3.o hb4);have hbk:=HL.o.blk.below HB4.o HL.o.blk.lt;have HBK4:=Hm hbk;obtain⟨z0,z1,z2⟩:=Qy hbk;rw[HVD.o] at z0;rw[HV.o,HLN.o] at z1;have HOWD4:=Hm (Qt HOWD.o (Only.of_below (S:=fun _=>False) HB4.o) (fun _ _ e=>e));clear hb4 hbk)
       | (at_builtin;refine Qx Qdw #[.string ⟨(U.encs R2).toArray⟩] HOWD4.o rfl rfl rfl rfl (by simp) rfl (Yz rfl) (by unfold maxLen;omega) (by omega) (Nat.zero_le _) ?_;intro v6 w6 hown6 hbel6 hgr6 hnew6;have HO6:=Hm hown6;obtain⟨A6,c6,rfl⟩:=Qg hown6;have HGR6:=Hm hgr6;have HNW6:=Hm hnew6;have hbk6:=HBK4.o.only (Zzz hgr6) (fun e=>(HAPH.o.1 s.a (by rw[HVD.o];exact e.symm)).1 rfl);have HBK6:=Hm hbk6;obtain⟨y0,y1,y2⟩:=Qy hbk6;have yf:=hbk6.frozen;have yl:=hbk6.lt;rw[HVD.o] at y0;rw[HV.o,HLN.o] at y1;clear hown6 hbel6 hgr6 hnew6 hbk6))
      obtain⟨w7,hw7⟩:∃ W,W=w6.setCell ⟨s.a,0,none⟩ (.slice A6 (S.docs.length+1) c6):=⟨_,rfl⟩;have hbk7:Blk w7 s.a 50 #[.slice A6 (S.docs.length+1) c6,s.ve,.map (some s.m)]:=by rw[hw7];exact HBK6.o.set_ 0 _
      have ho7:Only (fun k=>k=s.a) w6 w7:=by rw[hw7];exact (Only.refl (fun k=>k=s.a) w6).setCell (p:=⟨s.a,0,none⟩) (.inl rfl) _
      rw[← hw7];clear hw7 y0 y1 y2 yf yl;have HBK7:=Hm hbk7;have HO7:=Hm ho7;have HOWE7:=Hm (Qt (Qt (Qt HOWE.o (Only.of_below (S:=fun _=>False) HB4.o) (fun _ _ e=>e)) ((Zzz HGR6.o).mono (S':=fun k=>s.vd.ownBlock=some k) (fun k _ e=>by rw[HVD.o];exact e.symm)) (fun k hk e=>(HAPH.o.1 k e).2.2 (by rw[HV.o,HLN.o];exact hk))) ho7 (fun k hk=>(HAPH.o.2.1 k (by rw[HV.o,HLN.o];exact hk)).1));obtain⟨y0,y1,y2⟩:=Qy hbk7;rw[HV.o,HLN.o] at y1;have yf:=hbk7.frozen;have yl:=hbk7.lt;clear hbk7 ho7;go_wp2_with (at_builtin;refine Qx Qhq #[.int .i64 who,.int .i64 id,.slice Ao lo.length co] HOWE7.o rfl rfl rfl rfl (by simp) rfl (Q5 rfl rfl rfl) (by unfold maxLen;omega) (by omega) (Nat.zero_le _) ?_;intro v8 w8 hown8 hbel8 hgr8 hnew8;have HO8:=Hm hown8;obtain⟨A8,c8,rfl⟩:=Qg hown8;have HGR8:=Hm hgr8;have HNW8:=Hm hnew8;have hbk8:=HBK7.o.only (Zzz hgr8) (fun e=>(HAPH.o.2.1 s.a (by rw[HV.o,HLN.o];exact e.symm)).1 rfl);obtain⟨x0,x1,x2⟩:=Qy hbk8;have xf:=hbk8.frozen;have xl:=hbk8.lt;rw[HV.o,HLN.o] at x1;clear hown8 hbel8 hgr8 hnew8 hbk8)
      go_ret;rw[HD3.o];have hok:=HL.o.ok.does who id (r:Int) op;rw[HD3.o] at hok;have hoo:=HOO.o.below HR4.o (Grow.refl _ _);exact HL.o.push hok HB4.o (by rw[HVD.o];exact HGR6.o) (fun k hk=>by rw[HVD.o];exact HNW6.o k hk) HO6.o HO7.o HBK7.o (Wac _ _) (by rw[HLN.o];exact HO8.o) (by rw[HV.o,HLN.o];exact HGR8.o) (fun k hk=>by rw[HV.o,HLN.o];exact HNW8.o k hk) (hoo.sub HL.o.sub) hoo.2 rfl rfl
    ·have HD2:=Hm (HD1.o.trans (if_pos ha));have hab:(apc lo S.doc == 0)=false:=by rw[Waf];exact ha
     clear ha
     go_wp2_with (first
      | (go_at_call 17;refine HTX.o.mono ?_;rintro e w3 ⟨rfl,hb3⟩;have HB3:=Hm hb3;clear hb3)
      | (go_at_call 79;refine (HAP _ HB3.o).out.mono ?_;rintro e w4 ⟨rfl,hb4⟩;have HB4:=Hm (Qb (Qb HB.o HB3.o) hb4);clear hb4))
     go_ret;rw[HD2.o];exact Zi.same HL.o HB4.o rfl
 ·have HC:=Hm hc;have HD1:=Hm (HD0.o.trans (if_pos hc));have hcb:(chk op (dr.length:Int) == 0)=false:=by rw[Waf];exact hc
  clear hc HD0;go_enter func54,ntmps54
  go_wp2_with (first
   | (go_at_call 69;refine (HIN _ _ _ _).out.mono ?_;rintro e w1 ⟨rfl,rfl⟩;rw[HDEC.o])
   | (go_at_call 96;refine HCK.o.mono ?_;rintro e w2 ⟨rfl,hb2⟩;have HB2:=Hm hb2;clear hb2))
  go_ret;rw[HD1.o];exact Zi.same HL.o HB2.o rfl
end
end
section
open Go.RowKit Go.Sort
theorem Qbn (w:World):(zeroValue 52).run prog w=.ok (.agg #[.int .i64 0,.int .i64 0]) w:=by kernel_rfl
theorem RSrvR.stored {w w3 w4:World}{F:Nat→Prop}{s:RSP}{S:SV}{M:Int→Option (Int × Int)}(h:RSrvR w F s S)(hb:Below w.heap.size w w3)(hm:Mp w4 s.m (s.k+1) M)(ho:Only (fun k=>k=s.m) w3 w4) :
  RSrvR w4 F { s with k:=s.k+1 } { S with last:=M,tk:=S.tk+1 }:=by
 have h3:=h.below hb;obtain⟨ap1,ap2,ap3⟩:=h3.apart;have hns:∀ j,j=s.m→F j:=fun j e=>h.sub j (.inr (.inr (.inr e)))
 exact⟨⟨h3.ok.len,h3.ok.txt,h3.ok.step⟩,h3.blk.only ho ap3,Qt h3.docs ho (fun k hk=>(ap1 k hk).2.1),Qt h3.own ho (fun k hk=>(ap2 k hk).2),h3.log,
  h3.ops.only (ho.mono (fun k _=>hns k)) (Grow.refl _ _),hm,by have:=h3.tk;dsimp only;omega,h3.sub,fun j hj=>Wal (h3.flt j hj) ho.size⟩
theorem Zi.fresh {w w1 w2 w3 w4:World}{F:Nat→Prop}{s s':RSP}{S:SV}{who id rev:Int}{op:List PT}{c:Int}{e:Ending}(hb1:Below w.heap.size w w1)(ha:s'.a=s.a)(hm:s'.m=s.m)(ho:Only s.F w1 w2)(hg:Grow s.F s'.F w1.heap.size)
  (hS:∀ F',(∀ j,F' j→F j∨s'.F j)→(∀ j,s'.F j→F' j)→RSrvR w2 F' s' (S.does who id rev op).2) (hb3:Below w2.heap.size w2 w3) (hm4:Mp w4 s'.m (s'.k+1) (JC (S.does who id rev op).2.last who (id,c))) (ho4:Only (fun k=>k=s'.m) w3 w4)
  (hc:c=(S.does who id rev op).1) (he:e=.returned (.int .i64 c)) (hsm:s.F s.m):Zi F s (S.fresh who id rev op) w e w4:=by
 obtain⟨l1,l2⟩:=S.does_last who id rev op;refine⟨{ s' with k:=s'.k+1 },ha,hm,(((Only.of_below hb1).trans ho).trans (Only.of_below hb3)).trans (ho4.mono (fun k _ e=>by rw[e,hm];exact hsm)),hg.mono hb1.size,?_,fun F' k1 k2=>?_⟩
 ·rw[he,hc];rfl
 ·have:=(hS F' k1 k2).stored hb3 hm4 ho4
  unfold SV.fresh;rw[l1] at this;rw[l2] at this;rw[hc] at this;exact this
theorem Qum {w:World}{F:Nat→Prop}{s:RSP}{S:SV}{who id rev:Int}{op:List PT}{v:Value}(h:RSrvR w F s S)(hN:S.log.length≤1000)(hT:S.tk≤1000000000)(hwho:(Lit.int .i64 who).wf=true)(hxo:OpO F w v op)(hp:Qc op≤100000)(hn:op.length≤200000) :
  Calls prog 13 #[.pointer (some ⟨s.a,0,none⟩),.int .i64 who,.int .i64 id,.int .i64 rev,v] w (Zi F s (S.take who id rev op) w):=by
 obtain⟨z0,z1,z2⟩:=Qy h.blk;have HL:=Hm h;have HX:=Hm hxo;have HW:=Hm hwho;have HP:=Hm hp;have HM:=Hm h.map;have HTK:=Hm hT;obtain⟨⟨Ax,cx,rfl,-⟩,-⟩:=hxo;clear h hwho hp z0 z1 hT;obtain⟨o,ho⟩:∃ o,o=S.last who:=⟨_,rfl⟩
 cases o with
 | none =>
  have HT:Hd (S.take who id rev op=S.fresh who id rev op):=⟨by unfold SV.take;rw[← ho]⟩;have HO:=Hm ho;clear ho;go_enter func13,ntmps13
  go_upto_region 7 with (first
   | (at_lookup;refine YL rfl rfl underlying48 (Qbn _) rfl rfl HW.o HM.o ?_;rw[← HO.o];unfold prV)
   | (go_at_call 54;refine (Qe9 (HL.o.below (Qa (Wac _ _) _)) hN (HX.o.below (Qa (Wac _ _) _) (Grow.refl _ _)) HP.o hn).mono ?_;rintro e w2 hd;obtain⟨s',ha,hm,ho2,hgr,rfl,hS⟩:=hd))
  have HS:=Hm hS;have HS1:=Hm (hS (fun j=>F j∨s'.F j) (fun _ e=>e) (fun _ e=>.inr e));have HA:=Hm ha;have HMM:=Hm hm;have HO2:=Hm ho2;have HGR:=Hm hgr;obtain⟨c,hc⟩:∃ c,c=(S.does who id rev op).1:=⟨_,rfl⟩;rw[← hc];have HC:=Hm hc;have hblk:=HS1.o.blk;rw[ha] at hblk;obtain⟨x0,x1,x2⟩:=Qy hblk;have xl:=hblk.lt;have HTKb:Hd (s'.k<maxLen):=⟨by have h1:=HS1.o.tk;have h2:=(S.does_last who id rev op).2;have h3:=HTK.o;unfold maxLen;omega⟩;clear hS ha hm ho2 hgr hc hblk x0 x1 z2;go_wp2_with (at_mapUpdate;refine Qi4 rfl rfl underlying48 HTKb.o rfl rfl rfl HW.o HS1.o.map ?_;intro w4 hM4 hO4 hz4;have HM4:=Hm hM4;have HO4:=Hm hO4;clear hM4 hO4)
  go_ret;rw[HT.o];exact Zi.fresh (Qa (Wac _ _) _) HA.o HMM.o HO2.o HGR.o HS.o (Wac _ _) HM4.o HO4.o HC.o rfl (.inr (.inr (.inr rfl)))
 | some p =>
  obtain⟨i,k⟩:=p
  by_cases h1:id<i
  ·have HT:Hd (S.take who id rev op=(8,S)):=⟨by unfold SV.take;rw[← ho];dsimp only;rw[if_pos h1]⟩;have h1b:id≤i:=by omega
   have HO:=Hm ho;clear ho;go_enter func13,ntmps13
   go_wp2_with (at_lookup;refine YL rfl rfl underlying48 (Qbn _) rfl rfl HW.o HM.o ?_;rw[← HO.o];unfold prV)
   go_ret;rw[HT.o];exact Zi.same HL.o (Qa (Wac _ _) _) rfl
  by_cases h2:id=i
  ·subst h2;have HT:Hd (S.take who id rev op=(k,S)):=⟨by unfold SV.take;rw[← ho];dsimp only;rw[if_neg h1,if_pos rfl]⟩;have HO:=Hm ho;clear ho;go_enter func13,ntmps13
   go_wp2_with (at_lookup;refine YL rfl rfl underlying48 (Qbn _) rfl rfl HW.o HM.o ?_;rw[← HO.o];unfold prV)
   go_ret;rw[HT.o];exact Zi.same HL.o (Qa (Wac _ _) _) rfl
  ·have HT:Hd (S.take who id rev op=S.fresh who id rev op):=⟨by unfold SV.take;rw[← ho];dsimp only;rw[if_neg h1,if_neg h2]⟩;have h3:¬ id≤i:=by omega
   have HO:=Hm ho;clear ho h1 h2;go_enter func13,ntmps13
   go_upto_region 7 with (first
    | (at_lookup;refine YL rfl rfl underlying48 (Qbn _) rfl rfl HW.o HM.o ?_;rw[← HO.o];unfold prV)
    | (go_at_call 54;refine (Qe9 (HL.o.below (Qa (Wac _ _) _)) hN (HX.o.below (Qa (Wac _ _) _) (Grow.refl _ _)) HP.o hn).mono ?_;rintro e w2 hd;obtain⟨s',ha,hm,ho2,hgr,rfl,hS⟩:=hd))
   have HS:=Hm hS;have HS1:=Hm (hS (fun j=>F j∨s'.F j) (fun _ e=>e) (fun _ e=>.inr e));have HA:=Hm ha;have HMM:=Hm hm;have HO2:=Hm ho2;have HGR:=Hm hgr;obtain⟨c,hc⟩:∃ c,c=(S.does who id rev op).1:=⟨_,rfl⟩;rw[← hc];have HC:=Hm hc;have hblk:=HS1.o.blk;rw[ha] at hblk;obtain⟨x0,x1,x2⟩:=Qy hblk;have xl:=hblk.lt;have HTKb:Hd (s'.k<maxLen):=⟨by have h1:=HS1.o.tk;have h2:=(S.does_last who id rev op).2;have h3:=HTK.o;unfold maxLen;omega⟩;clear hS ha hm ho2 hgr hc hblk x0 x1 z2;go_wp2_with (at_mapUpdate;refine Qi4 rfl rfl underlying48 HTKb.o rfl rfl rfl HW.o HS1.o.map ?_;intro w4 hM4 hO4 hz4;have HM4:=Hm hM4;have HO4:=Hm hO4;clear hM4 hO4)
   go_ret;rw[HT.o];exact Zi.fresh (Qa (Wac _ _) _) HA.o HMM.o HO2.o HGR.o HS.o (Wac _ _) HM4.o HO4.o HC.o rfl (.inr (.inr (.inr rfl)))
end
section
open Go.RowKit Go.Sort
def Qu6 (rs:List Int)(rest:U.Bs)(w:World)(e:Ending)(w':World):Prop :=
 Below w.heap.size w w'∧(rest≠[]→e=.returned (.tuple #[.pointer none,.agg #[.int .i64 3,.int .i64 (bl rs)]])) ∧
  (rest=[]→2000<bl rs→e=.returned (.tuple #[.pointer none,.agg #[.int .i64 12,.int .i64 (-1)]])) ∧
  (rest=[]→bl rs≤2000→∃ s:RSP,e=.returned (.tuple #[.pointer (some ⟨s.a,0,none⟩),.agg #[.int .i64 0,.int .i64 (-1)]])∧(∀ j,s.F j→w.heap.size≤j)∧RSrvR w' s.F s (SV.new (U.encs rs)))
theorem RSrvR.widen {w:World}{F F':Nat→Prop}{s:RSP}{S:SV}(h:RSrvR w F s S)(hs:∀ j,F j→F' j)(hl:∀ j,F' j→j<w.heap.size)(ho:S.log=[]):RSrvR w F' s S:=by
 have hL:s.L=[]:=by have:=h.len;rw[ho] at this;exact List.length_eq_zero_iff.1 this
 exact⟨h.ok,h.blk,h.docs,h.own,h.log,fun x hx=>by rw[hL] at hx;simp at hx,h.map,h.tk,fun j hj=>hs j (h.sub j hj),hl⟩
theorem Qu7 {w:World}{t:TypeId}(u:Value):(w.alloc (.cells #[u] t)).ownsRow 0 t 1 (.slice (some ⟨w.heap.size,0,none⟩) 1 1) 1 [u] :=
 ⟨by simp,.inr ⟨w.heap.size,1,#[u],rfl,Nat.zero_le _,Wbc w _,Wak _,by unfold maxLen;omega,by simp,by simp⟩⟩
theorem Qen {n:Nat}:∀ j,(RSP.mk (n+1+1) (.slice (some ⟨n,0,none⟩) 1 1) (.slice none 0 0) (n+1) 0 []).F j→n≤j∧j≤n+2:=by
 rintro j (e | e | e | e)
 ·dsimp only at e;omega
 ·have:n=j:=Wbg e
  omega
 ·cases e
 ·dsimp only at e;omega
theorem Qu8 {W0:World}{n:Nat}(hn:W0.heap.size=n){rs:List Int}(hall:U.AllR rs)(hbl:bl rs≤2000) :
  RSrvR (((W0.alloc (.cells #[.string ⟨(U.encs rs).toArray⟩] 9)).alloc (.map #[] 0)).alloc (.cells #[.slice (some ⟨n,0,none⟩) 1 1,.slice none 0 0,.map (some (n+1))] 50))
   (RSP.mk (n+1+1) (.slice (some ⟨n,0,none⟩) 1 1) (.slice none 0 0) (n+1) 0 []).F (RSP.mk (n+1+1) (.slice (some ⟨n,0,none⟩) 1 1) (.slice none 0 0) (n+1) 0 []) (SV.new (U.encs rs)):=by
 subst hn;refine⟨SVok.new hall hbl,?_,?_,World.ownsRow_nil _ _ _ _,rfl,fun x hx=>by simp at hx,?_,Wak _,fun _ h=>h,fun j hj=>?_⟩
 ·have:=Blk.new ((W0.alloc (.cells #[.string ⟨(U.encs rs).toArray⟩] 9)).alloc (.map #[] 0)) 50 #[.slice (some ⟨W0.heap.size,0,none⟩) 1 1,.slice none 0 0,.map (some (W0.heap.size+1))]
  rw[Waq,Waq] at this;exact this
 ·exact Qt (Qu7 (w:=W0) (t:=9) (.string ⟨(U.encs rs).toArray⟩)) (Only.of_below (S:=fun _=>False) (Qa (Qa (Wac _ _) _) _)) (fun _ _ e=>e)
 ·have:=Mp.new (W0.alloc (.cells #[.string ⟨(U.encs rs).toArray⟩] 9))
  rw[Waq] at this;exact this.below (Qa (Wac _ _) _)
 ·have:=Qen j hj
  simp
  omega
theorem Qu9 {s:U.Bs}{rs:List Int}{rest:U.Bs}(hsp:U.Sp s rs rest)(hs:s.length≤1000000)(w:World) :
  Calls prog 8 #[.string ⟨s.toArray⟩] w (Qu6 rs rest w):=by
 have HC:=fun W=>Hm (Qa3 hsp W (by omega))
 have HALL:=Hm hsp.all;have hmm:=@run_makeMap prog;have hoff:U.off rs rs.length=bl rs:=U.off_full rs;have HOF:=Hm hoff;have HBR:=fun k W=>Hm (JZ k W)
 by_cases hr:rest=[]
 ·subst hr;obtain rfl:s=U.encs rs:=by have:=hsp.eq;simpa using this
  by_cases hbl:2000<bl rs
  ·have hi:(2000:Int)<((U.encs rs).length:Int):=by show (2000:Int)<(bl rs:Int);omega
   have HBL:=Hm hbl;clear hsp hoff hbl hs;go_enter func8,ntmps8
   go_wp2_with (first
    | (go_at_call 49;refine (HC _).out.mono ?_;rintro e w1 ⟨hb1,hok,-⟩;obtain rfl:=hok rfl;unfold QQ;have HB1:=Hm ((Qa (Wac _ _) _).trans (hb1.mono (by simp)):Below w.heap.size w w1);have HK1:=Hm ((Blk.new w 31 #[.int .i64 0,.int .i64 0]).below hb1 (by simp));clear hb1 hok)
    | (go_at_call 50;refine (HBR _ _).out.mono ?_;rintro e w2 ⟨rfl,hb2⟩;have HB2:=Hm (Qb (Qa (Qa HB1.o _) _) hb2);have hk2:=((HK1.o.alloc _).alloc _).below hb2 (by simp;have:=HK1.o.lt;omega);have HK2:=Hm hk2;have k0:=hk2.cell 0;have k1:=hk2.cell 1;simp only[Wab,Waa,Wae] at k0 k1;have kf:=hk2.frozen;have kl:=hk2.lt;clear hb2 hk2))
   refine HK2.o.set2 (F:=fun W=>bodyPost _ _ _ Exit.ret _ W) ?_;intro w3 hC3 hB3 _ _;have g0:=hC3.cell 0;have g1:=hC3.cell 1;simp only[Wab,Waa,Wae] at g0 g1;refine Waz (v:=.tuple #[.pointer none,.agg #[.int .i64 12,.int .i64 (-1)]]) (by simp[results,results8,go_sem,g0,g1]) rfl ?_
   exact⟨HB2.o.trans (hB3 _ (Wak _)),fun h=>absurd rfl h,fun _ _=>rfl,fun _ h=>absurd HBL.o (by omega)⟩
  ·have hi:¬ ((2000:Int)<((U.encs rs).length:Int)):=by show ¬ ((2000:Int)<(bl rs:Int));omega
   have HBL:Hd (bl rs≤2000):=⟨by omega⟩;clear hsp hoff hbl hs;go_enter func8,ntmps8
   go_wp2_with (first
    | (go_at_call 49;refine (HC _).out.mono ?_;rintro e w1 ⟨hb1,hok,-⟩;obtain rfl:=hok rfl;unfold QQ;have HB1:=Hm ((Qa (Wac _ _) _).trans (hb1.mono (by simp)):Below w.heap.size w w1);have HK1:=Hm ((Blk.new w 31 #[.int .i64 0,.int .i64 0]).below hb1 (by simp));clear hb1 hok)
    | (go_at_call 50;refine (HBR _ _).out.mono ?_;rintro e w2 ⟨rfl,hb2⟩;have hz1:=HB1.o.size;have hlk:=HK1.o.lt;have hx:=(Qa (Qa (Qa (Qa (Qa (Wac w1.heap.size w1) (.cells #[.int .i64 (cnt rs).b,.int .i64 (cnt rs).h,.int .i64 (cnt rs).r,.int .i64 (cnt rs).l] 63)) (.cells #[.int .i64 0,.int .i64 (-1)] 31)) (.cells #[.string ⟨(U.encs rs).toArray⟩] 9)) (.map #[] 0)) (.cells #[.slice (some ⟨w1.heap.size+1+1,0,none⟩) 1 1,.slice none 0 0,.map (some (w1.heap.size+1+1+1))] 50));have hy:=Qb hx hb2;have HB2:=Hm (Qb HB1.o hy);have HRS:=Hm ((Qu8 (W0:=(w1.alloc (.cells #[.int .i64 (cnt rs).b,.int .i64 (cnt rs).h,.int .i64 (cnt rs).r,.int .i64 (cnt rs).l] 63)).alloc (.cells #[.int .i64 0,.int .i64 (-1)] 31)) (n:=w1.heap.size+1+1) (by simp) HALL.o HBL.o).below hb2);have hk2:=HK1.o.below hy hlk;have HK2:=Hm hk2;have k0:=hk2.cell 0;have k1:=hk2.cell 1;simp only[Wab,Waa,Wae] at k0 k1;have kf:=hk2.frozen;have kl:=hk2.lt;have HZ1:=Hm hz1;have HKL:=Hm hlk;clear hb2 hk2 hx hy hz1 hlk))
   refine HK2.o.set2 (F:=fun W=>bodyPost _ _ _ Exit.ret _ W) ?_;intro w3 hC3 hB3 hz3 hK3;have g0:=hC3.cell 0;have g1:=hC3.cell 1;simp only[Wab,Waa,Wae] at g0 g1;refine Waz (v:=.tuple #[.pointer (some ⟨w1.heap.size+1+1+1+1,0,none⟩),.agg #[.int .i64 0,.int .i64 (-1)]]) (by simp[results,results8,go_sem,g0,g1]) rfl ?_;have hO:Only (fun k=>k=w.heap.size) w2 w3:=⟨(hB3 0 (Nat.zero_le _)).os,(hB3 0 (Nat.zero_le _)).tape,(hB3 0 (Nat.zero_le _)).output,by omega,fun k _ hk=>hK3 k hk⟩;have hz1:=HZ1.o;have hkl:=HKL.o;refine⟨HB2.o.trans (hB3 _ (Wak _)),fun h=>absurd rfl h,fun _ h=>absurd h (by have:=HBL.o;omega),fun _ _=>⟨RSP.mk (w1.heap.size+1+1+1+1) (.slice (some ⟨w1.heap.size+1+1,0,none⟩) 1 1) (.slice none 0 0) (w1.heap.size+1+1+1) 0 [],rfl,fun j hj=>by have:=Qen j hj;omega,?_⟩⟩;have hR:=HRS.o;refine⟨hR.ok,hR.blk.only hO (by dsimp only;omega),Qt hR.docs hO (fun k hk e=>by have:=(Qen k (.inr (.inl hk))).1;omega),Qt hR.own hO (fun k hk e=>by cases hk),hR.log,fun x hx=>by simp at hx,hR.map.only hO (by dsimp only;omega),hR.tk,hR.sub,fun j hj=>by rw[hz3];exact hR.flt j hj⟩
 ·have HRR:=Hm hr;clear hsp hoff hs hr;go_enter func8,ntmps8
  go_wp2_with (go_at_call 49;refine (HC _).out.mono ?_;rintro e w1 ⟨hb1,-,hok⟩;obtain rfl:=hok HRR.o;rw[HOF.o];unfold QQ;have HB1:=Hm ((Qa (Wac _ _) _).trans (hb1.mono (by simp)):Below w.heap.size w w1);have hk1:=((Blk.new w 31 #[.int .i64 0,.int .i64 0]).below hb1 (by simp));have HK1:=Hm hk1;have k0:=hk1.cell 0;have k1:=hk1.cell 1;simp only[Wab,Waa,Wae] at k0 k1;have kf:=hk1.frozen;have kl:=hk1.lt;clear hb1 hok hk1)
  go_region
  all_goals
   go_wp2_with fail;refine (?_:∀ W,Blk W w.heap.size 31 #[.int .i64 3,.int .i64 (bl rs)]→Below w.heap.size w W→bodyPost _ _ _ Exit.ret _ W) _ ((((HK1.o.set_ 0 (.int .i64 3)).set_ 1 (.int .i64 (bl rs))).alloc _).alloc _) (Qe (Qa (Qa ((HB1.o.setCell (p:=⟨w.heap.size,0,none⟩) (Wak _) _).setCell (p:=⟨w.heap.size,1,none⟩) (Wak _) _) _) _));intro W hC3 hBW;have g0:=hC3.cell 0;have g1:=hC3.cell 1;simp only[Wab,Waa,Wae] at g0 g1;refine Waz (v:=.tuple #[.pointer none,.agg #[.int .i64 3,.int .i64 (bl rs)]]) (by simp[results,results8,go_sem,g0,g1]) rfl ?_
   exact⟨hBW,fun _=>rfl,fun h=>absurd h HRR.o,fun h=>absurd h HRR.o⟩
end
section
open Go.ChangeShapes Go.WideShapes Go.ChangeAt Go.RowKit
structure ActOk (w:World)(x:EN × Value):Prop where
 wfx:(Lit.int .i64 x.1.who).wf=true
 wfy:(Lit.int .i64 x.1.id).wf=true
 op:Sl w 3 x.2 x.1.op.length (opv x.1.op)
 parts:∀ q∈x.1.op,q.In
theorem Qi5:prog.cellsOf 82=3:=by kernel_rfl
theorem Qsx:prog.underlying 82=some (.struct (prog.fieldsOf 82)):=by kernel_rfl
theorem Qsy : (Tryz.prog.fieldsOf 82).toList.map (fun f => (f.name, f.type, f.offset)) = [("What", 3, 0), ("K", 3, 1), ("Op", 36, 2)] := by kernel_rfl
theorem Qdx:prog.cellsOf 3=1∧prog.cellsOf 36=1:=⟨by kernel_rfl,by kernel_rfl⟩
section
variable {H:Type}{enc:TypeId × Value→H}{w:World}{base:Nat}
theorem Qsz {n:Nat}{cs:List Value}{x:DataW H × List MemPlace}(h:DataW.trod enc prog w base (fun _=>true) true n 82 cs=some x) :
  ∃ p:EN × Value,cs=ecv p∧ActOk w p:=by
 obtain⟨xs,n',_,rfl,hcs,hxs,hf⟩:=DataW.trod_struct Qsx h;rw[Qi5] at hcs;obtain⟨f0,f1,f2,hl,h0,h1,h2⟩:=Qj8 _ Qsy;simp only[Prod.mk.injEq] at h0 h1 h2;have hsz:(prog.fieldsOf 82).size=3:=by rw[← Array.length_toList,hl];rfl
 rw[hsz] at hxs;have g:∀ i f,[f0,f1,f2][i]?=some f→(prog.fieldsOf 82)[i]?=some f:=fun i f hi=>by rw[← Array.getElem?_toList,hl];exact hi
 match cs,hcs,xs,hxs with
 | [c0,c1,c2],_,[x0,x1,x2],_ =>
  have e0:=hf 0 f0 (g 0 f0 rfl);have e1:=hf 1 f1 (g 1 f1 rfl);have e2:=hf 2 f2 (g 2 f2 rfl);rw[h0.2.1,h0.2.2,Qdx.1] at e0;rw[h1.2.1,h1.2.2,Qdx.1] at e1;rw[h2.2.1,h2.2.2,Qdx.2] at e2;obtain⟨a,a1,rfl,a3⟩:=DataW.trod_int underlying3 e0;obtain⟨b,b1,rfl,b3⟩:=DataW.trod_int underlying3 e1;obtain⟨v,m,l,he,hs,hln,hin⟩:=Qqn e2;simp at a1 b1 he;subst a1 b1 he
  exact⟨(⟨a,b,l⟩,c2),by simp[ecv],a3,b3,by dsimp only;rw[hln];exact hs,hin⟩
theorem open_actls {r:Reach}{b0:Nat}{v:Value}{d:DataW H}{ps:List MemPlace}
  (hval:Value.okWide prog w r b0 77 v) (hd:DataW.Trod enc prog w base (fun _=>true) true 77 v d ps) :
  ∃ (n:Nat) (L:List (EN × Value)),Sl w 3 v n (ens L)∧L.length=n∧∀ p∈L,ActOk w p:=by
 obtain⟨a0,len,cap,rfl⟩:=okWide_slice underlying77 hval;obtain⟨fuel,hf⟩:=hd;rcases Go.Deep.open_slice underlying77 hf with ⟨hcs,hx⟩ | ⟨a,len',cap',m,n,D,Pl,hcs,_,hl,hm,hmm,hx,hi⟩
 ·simp[Value.cells] at hcs
  obtain⟨rfl,rfl,rfl⟩:=hcs
  exact⟨0,[],Sl.nil w 3,rfl,fun p hp=>by simp at hp⟩
 ·simp[Value.cells] at hcs
  obtain⟨rfl,rfl,rfl⟩:=hcs;simp only[if_true] at hmm;subst hmm;rw[Qi5] at hi
  have hpt:∀ i,∃ p:EN × Value,i<len→(∀ j u,(ecv p)[j]?=some u→w.cell? (a.add (i*3+j))=some u)∧ActOk w p:=by
   intro i
   by_cases h:i<len
   ·obtain⟨cs',hc,ht⟩:=hi i (by omega);obtain⟨p,rfl,hin⟩:=Qsz ht;obtain⟨_,_,hat⟩:=World.cells?_some hc;refine⟨p,fun _=>⟨fun j u hu=>?_,hin⟩⟩
    have hj:j<3:=by
     rcases Nat.lt_or_ge j 3 with h | h
     ·exact h
     ·rw[List.getElem?_eq_none (by simpa [ecv] using h)] at hu;cases hu
    rw[← Qc8,hat j hj,hu]
   ·exact⟨(⟨0,0,[]⟩,.slice none 0 0),fun h'=>absurd h' h⟩
  obtain⟨f,hf'⟩:=Classical.axiomOfChoice hpt;refine⟨len,(List.range len).map f,⟨some a,_,rfl,by rw[Qjg];simp,hl,hm,(fun h=>nomatch h),fun hn=>⟨a,rfl,?_,?_⟩⟩,by simp,?_⟩
  ·have h1:=(hf' 0 hn).1 0 _ rfl
   have:=World.block_lt_of_cell? w _ h1
   rw[Xn] at this;exact this
  ·intro j u hu
   have hj:j<len*3:=by
    rcases Nat.lt_or_ge j (len*3) with h | h
    ·exact h
    ·rw[List.getElem?_eq_none (by rw[Qjg];simpa using h)] at hu;cases hu
   have hk:j / 3<((List.range len).map f).length:=by simp;omega
   have hg:((List.range len).map f)[j / 3]=f (j / 3):=by simp
   obtain⟨hc,_⟩:=hf' (j / 3) (by omega);obtain⟨o0,o1,o2⟩:=Qbc hk;rw[hg] at o0 o1 o2
   have hz:(ecv (f (j / 3)))[j % 3]?=some u:=by
    have h3:j % 3=0∨j % 3=1∨j % 3=2:=by omega
    rcases h3 with h3 | h3 | h3
    ·rw[show j=j / 3*3 from by omega,o0] at hu;rw[h3];exact hu
    ·rw[show j=j / 3*3+1 from by omega,o1] at hu;rw[h3];exact hu
    ·rw[show j=j / 3*3+2 from by omega,o2] at hu;rw[h3];exact hu
   have:=hc (j % 3) u hz
   rwa [show j / 3*3+j % 3=j from by omega] at this
  ·intro p hp;obtain⟨i,hi',rfl⟩:=List.mem_map.1 hp;exact (hf' i (List.mem_range.1 hi')).2
end
end
end Go.Proofs.YtdgdajnbkfmijaaGreatDoor
