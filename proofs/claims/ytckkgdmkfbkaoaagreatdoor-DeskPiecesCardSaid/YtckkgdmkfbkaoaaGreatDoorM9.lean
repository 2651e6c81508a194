/- Texts of the proof. -/
import Derived.Test.YtckkgdmkfbkaoaaGreatDoorM8
import Derived.Deep.RegionHeld3
import Derived.Deep.DrawnRows
namespace Go.Proofs.YtckkgdmkfbkaoaaGreatDoor
open Go.Proofs.Tryz
set_option maxRecDepth 100000
set_option maxHeartbeats 32000000
set_option linter.all false
section
open Go.RowKit
theorem Xf (s:U.Bs)(k:Nat):(ByteArray.mk s.toArray).extract k s.length=⟨(s.drop k).toArray⟩:=by
 have:(s.drop k).length≤s.length-k:=by rw[War];exact Wak _
 simp[ByteArray.extract,ByteArray.copySlice,List.take_of_length_le this]
theorem next_at {s:U.Bs}{r:Int}{n:Nat}(h:U.next s=(r,n))(w:World)(hl:s.length≤140737488351232) :
  Calls prog 181 #[.string ⟨s.toArray⟩] w fun e w'=>e=.returned (.tuple #[.int .i32 r,.int .i64 n])∧w=w':=by
 have:=Qko s w hl
 unfold ZP at this;rw[h] at this;exact this
def QU (w:World)(g:Nat)(e p:Int):Prop:=w.heap[g]?=some (.cells #[.int .i64 e,.int .i64 p] 181 (0,0))
theorem QU.below {w w':World}{g:Nat}{e p:Int}(h:QU w g e p)(hb:Below w.heap.size w w'):QU w' g e p :=
 (hb.block g (Wbm.1 h).1).trans h
abbrev atV (g:Nat):Value:=.iface 179 (.pointer (some ⟨g,0,none⟩))
theorem Qjw:El prog 189 21 1 4:=El.mk' underlying189 (by kernel_rfl) (by decide)
def Qs (l:List Int):List Value:=l.map (.int .i32)
def Qwp (_s:U.Bs)(rs:List Int)(rest:U.Bs)(w:World)(e:Ending)(w':World):Prop :=
 Below w.heap.size w w'∧(rest=[]→∃ v,e=.returned (.tuple #[v,.nilIface])∧Sl w' 1 v rs.length (Qs rs)) ∧
  (rest≠[]→∃ g,e=.returned (.tuple #[.slice none 0 0,atV g])∧QU w' g 3 (U.off rs rs.length))
section
attribute [local go_sem] Xf
theorem JI {s:U.Bs}{rs:List Int}{rest:U.Bs}(h:U.Sp s rs rest)(w:World)(hs:s.length≤35184372087808) :
  Calls prog 237 #[.string ⟨s.toArray⟩] w (Qwp s rs rest w):=by
 have H:=Hm h;have hlen:=h.length;have hll:=U.len_le_off rs;clear h;have HL:=Hm hlen;have hle:U.off rs rs.length≤s.length:=by omega
 clear hlen;have hsz:s.length≤35184372087808:=hs;clear hs;go_enter func237,ntmps237
 go_wp2_with fail
 go_loopw [2,3,4,5] (fun n e v i wr=>n=.slice none 0 0∧e=.nilIface∧∃ k:Nat,k≤rs.length∧i=.int .i64 (U.off rs k)∧wr.ownsRow w.heap.size 21 1 v k (Qs (rs.take k))∧Below w.heap.size w wr) (fun _ _ _ i _=>s.length-(intOf i).toNat)
 case atStart=>exact⟨rfl,rfl,0,by omega,rfl,World.ownsRow_nil _ _ _ _,Wac _ _⟩
 case round =>
  obtain⟨rfl,rfl,k,hk,rfl,hown,hbel⟩:=hrel;have hok:U.off rs k≤U.off rs rs.length:=U.off_le hk
  by_cases hlt:k<rs.length
  ·have hol:U.off rs k<U.off rs rs.length:=U.off_lt hlt;have HN:=Hm (H.o.next_at hlt);have HO:=Hm (U.off_succ hlt);have hw1:=U.wid_pos rs[k];have hw2:=U.wid_le rs[k];generalize hr:rs[k]=r at *;have HR:=Hm hr;clear hr;have hlt':U.off rs k<s.length:=by omega
   have hn0:((U.wid r:Int) == 0)=false:=by rw[Waf];omega
   have hb0:=hbel.size;have HOS:=Hm hown;clear hown;go_wp2_with (first | (go_at_call 181;refine (next_at HN.o _ (by rw[War];omega)).mono ?_;rintro e w' ⟨rfl,rfl⟩) | (at_builtin;refine Yw Qjw #[.int .i32 r] HOS.o rfl rfl rfl rfl rfl (YI rfl) (by unfold maxLen;omega) (by omega) hb0 ?_;intro v1 w1 hown1 hbel1 _))
   have e1:Qs (rs.take (k+1))=Qs (rs.take k)++#[Value.int .i32 r].toList:=by
    rw[Wag hlt,Qs,Wbo,← HR.o];rfl
   rw[← e1] at hown1;refine⟨⟨rfl,rfl,k+1,by omega,by rw[HO.o];go_num,hown1,hbel.trans hbel1⟩,?_⟩;simp only[intOf];omega
  ·obtain rfl:k=rs.length:=by omega
   have hfin:Sl wr 1 u4 rs.length (Qs rs):=by
    have:=Sl.of_own hown
    rwa [Wbe] at this
   clear hown
   by_cases hr:rest=[]
   ·subst hr;have hge:¬ U.off rs rs.length<s.length:=by have:=HL.o;simp at this;omega
    clear hlt;go_wp2_with fail;go_ret2
    exact⟨hbel,fun _=>⟨u4,rfl,hfin⟩,fun h=>absurd rfl h⟩
   ·have hlt':U.off rs rs.length<s.length:=by
     have:=HL.o
     have h2:0<rest.length:=Wax.2 hr;omega
    have HN:=Hm H.o.next_end;have HR:=Hm hr;have hb0:=hbel.size;clear hlt hfin hr;go_wp2_with (go_at_call 181;refine (next_at HN.o _ (by rw[War];omega)).mono ?_;rintro e w' ⟨rfl,rfl⟩)
    go_ret2
    exact⟨hbel.alloc (by omega) _,fun h=>absurd h HR.o,fun _=>⟨wr.heap.size,rfl,Wbc wr _⟩⟩
end
end
section
open Go.RowKit
theorem Qbw (r:Int)(h:0≤r)(h2:r≤1114111):bits .and .i32 r 63=r % 64:=by
 obtain⟨n,rfl⟩:=Was h;have e:n &&& 63=n % 64:=Nat.and_two_pow_sub_one_eq_mod n 6
 have h1:(BitVec.ofInt 32 (n:Int)).toNat=n:=by
  rw[BitVec.ofInt_natCast,BitVec.toNat_ofNat];exact Nat.mod_eq_of_lt (by omega)
 show IntKind.i32.wrap ((BitVec.ofInt 32 (n:Int) &&& BitVec.ofInt 32 63).toNat:Int)=_
 rw[BitVec.toNat_and,h1,show (BitVec.ofInt 32 63).toNat=63 from rfl,e,IntKind.wrap_i32];omega
theorem JN:El prog 54 5 1 1:=El.mk' underlying54 (by kernel_rfl) (by decide)
def u8s (l:U.Bs):List Value:=l.map fun c=>.int .u8 (c.toNat:Int)
theorem Qbx (a b:U.Bs):u8s (a++b)=u8s a++u8s b:=by simp[u8s]
theorem Qk0 {a:Int}(ha:0≤a)(ha2:a<256):u8s [U.by8 a]=#[Value.int .u8 a].toList:=by
 simp[u8s,U.by8_toNat ha ha2]
theorem Qk1 {a b:Int}(ha:0≤a)(ha2:a<256)(hb:0≤b)(hb2:b<256):u8s [U.by8 a,U.by8 b]=#[Value.int .u8 a,Value.int .u8 b].toList:=by
 simp[u8s,U.by8_toNat ha ha2,U.by8_toNat hb hb2]
theorem Qk2 {a b c:Int}(ha:0≤a)(ha2:a<256)(hb:0≤b)(hb2:b<256)(hc:0≤c)(hc2:c<256):u8s [U.by8 a,U.by8 b,U.by8 c]=#[Value.int .u8 a,Value.int .u8 b,Value.int .u8 c].toList:=by
 simp[u8s,U.by8_toNat ha ha2,U.by8_toNat hb hb2,U.by8_toNat hc hc2]
theorem Qk3 {a b c d:Int}(ha:0≤a)(ha2:a<256)(hb:0≤b)(hb2:b<256)(hc:0≤c)(hc2:c<256)(hd:0≤d)(hd2:d<256) :
  u8s [U.by8 a,U.by8 b,U.by8 c,U.by8 d]=#[Value.int .u8 a,Value.int .u8 b,Value.int .u8 c,Value.int .u8 d].toList:=by
 simp[u8s,U.by8_toNat ha ha2,U.by8_toNat hb hb2,U.by8_toNat hc hc2,U.by8_toNat hd hd2]
def Jg (base n:Nat)(xs:List Value)(r:Int)(w:World)(e:Ending)(w':World):Prop :=
 ∃ v',e=.returned v'∧w'.ownsRow base 5 1 v' (n+U.wid r) (xs++u8s (U.enc r))∧Below base w w'
theorem JO {base n:Nat}{v:Value}{xs:List Value}{r:Int}{w:World}(hr:U.right r=true)(hown:w.ownsRow base 5 1 v n xs)(hb:base≤w.heap.size)(hn:n+4≤140737488355328) :
  Calls prog 297 #[v,.int .i32 r] w (Jg base n xs r w):=by
 have hr':=U.right_iff.1 hr;have HO:=Hm hown;have hr0:0≤r:=by omega
 have hr1:r≤1114111:=by omega
 clear hr hr' hown
 by_cases c1:r<128
 ·have e1:u8s (U.enc r)=#[Value.int .u8 r].toList:=by unfold U.enc;rw[if_pos c1];exact Qk0 (by omega) (by omega)
  have e2:U.wid r=1:=by unfold U.wid;rw[if_pos c1]
  unfold Jg;rw[e1,e2];have HE:=Hm (Wao e1 e2);clear e1 e2;go_enter func297,ntmps297
  go_wp2_with (at_builtin;refine Yw JN #[.int .u8 r] HO.o rfl rfl rfl rfl rfl (YI rfl) (by unfold maxLen;omega) (by omega) hb ?_;intro v1 w1 hown1 hbel1 _)
  go_ret
  exact⟨v1,rfl,hown1,hbel1⟩
 have a1:=Qbw r hr0 hr1
 by_cases c2:r<2048
 ·have e1:u8s (U.enc r)=#[Value.int .u8 (192+r / 64),Value.int .u8 (128+r % 64)].toList:=by unfold U.enc;rw[if_neg c1,if_pos c2];exact Qk1 (by omega) (by omega) (by omega) (by omega)
  have e2:U.wid r=2:=by unfold U.wid;rw[if_neg c1,if_pos c2]
  unfold Jg;rw[e1,e2];clear e1 e2;go_enter func297,ntmps297
  go_wp2_with (at_builtin;refine Yw JN #[.int .u8 (192+r / 64),.int .u8 (128+r % 64)] HO.o rfl rfl rfl rfl rfl (Qdf rfl rfl) (by unfold maxLen;omega) (by omega) hb ?_;intro v1 w1 hown1 hbel1 _)
  go_ret
  exact⟨v1,rfl,hown1,hbel1⟩
 have a2:=Qbw (r / 64) (by omega) (by omega)
 by_cases c3:r<65536
 ·have e1:u8s (U.enc r)=#[Value.int .u8 (224+r / 4096),Value.int .u8 (128+r / 64 % 64),Value.int .u8 (128+r % 64)].toList:=by
   unfold U.enc;rw[if_neg c1,if_neg c2,if_pos c3];exact Qk2 (by omega) (by omega) (by omega) (by omega) (by omega) (by omega)
  have e2:U.wid r=3:=by unfold U.wid;rw[if_neg c1,if_neg c2,if_pos c3]
  unfold Jg;rw[e1,e2];clear e1 e2;go_enter func297,ntmps297
  go_wp2_with (at_builtin;refine Yw JN #[.int .u8 (224+r / 4096),.int .u8 (128+r / 64 % 64),.int .u8 (128+r % 64)] HO.o rfl rfl rfl rfl rfl (QP rfl rfl rfl) (by unfold maxLen;omega) (by omega) hb ?_;intro v1 w1 hown1 hbel1 _)
  go_ret
  exact⟨v1,rfl,hown1,hbel1⟩
 ·have a3:=Qbw (r / 4096) (by omega) (by omega)
  have e1:u8s (U.enc r)=#[Value.int .u8 (240+r / 262144),Value.int .u8 (128+r / 4096 % 64),Value.int .u8 (128+r / 64 % 64),Value.int .u8 (128+r % 64)].toList:=by
   unfold U.enc;rw[if_neg c1,if_neg c2,if_neg c3];exact Qk3 (by omega) (by omega) (by omega) (by omega) (by omega) (by omega) (by omega) (by omega)
  have e2:U.wid r=4:=by unfold U.wid;rw[if_neg c1,if_neg c2,if_neg c3]
  unfold Jg;rw[e1,e2];clear e1 e2;go_enter func297,ntmps297
  go_wp2_with (at_builtin;refine Yw JN #[.int .u8 (240+r / 262144),.int .u8 (128+r / 4096 % 64),.int .u8 (128+r / 64 % 64),.int .u8 (128+r % 64)] HO.o rfl rfl rfl rfl rfl (one4 rfl rfl rfl rfl) (by unfold maxLen;omega) (by omega) hb ?_;intro v1 w1 hown1 hbel1 _)
  go_ret
  exact⟨v1,rfl,hown1,hbel1⟩
structure Tp (l pre:List Int)(rest:List Int):Prop where
 all:U.AllR pre
 eq:l=pre++rest
 bad:∀ r t,rest=r :: t→U.right r=false
theorem Qk4 (rs:List Int):(U.encs rs).length≤4*rs.length:=by
 induction rs with
 | nil=>simp[U.encs_nil]
 | cons r rs ih =>
  rw[U.encs_cons,Wad,U.enc_length,Wan]
  have:=U.wid_le r
  omega
def Qk5 (pre rest:List Int)(w:World)(e:Ending)(w':World):Prop :=
 Below w.heap.size w w'∧(rest=[]→e=.returned (.tuple #[.string ⟨(U.encs pre).toArray⟩,.nilIface])) ∧
  (rest≠[]→∃ g,e=.returned (.tuple #[.string ⟨#[]⟩,atV g])∧QU w' g 3 pre.length)
theorem Qk6 {l pre rest:List Int}{v:Value}{n:Nat}{w:World}(h:Tp l pre rest)(hsl:Sl w 1 v n (Qs l))(hn:n≤4398046511104) :
  Calls prog 259 #[v] w (Qk5 pre rest w):=by
 have hln:l.length=n:=by have:=hsl.len;simpa [Qs] using this
 have hpl:pre.length≤n:=by rw[← hln,h.eq];simp
 have HLN:=Hm hln;have HSL:=Hm hsl;obtain⟨A,c,rfl,_⟩:=hsl;have H:=Hm h;clear h hln;go_enter func259,ntmps259
 go_wp2_with fail
 go_loopw [2,3,4,9] (fun t e b i wr=>t=.string ⟨#[]⟩∧e=.nilIface∧∃ k:Nat,k≤pre.length∧i=.int .i64 k∧wr.ownsRow w.heap.size 5 1 b (U.encs (pre.take k)).length (u8s (U.encs (pre.take k)))∧Below w.heap.size w wr) (fun _ _ _ i _=>n-(intOf i).toNat)
 case atStart=>exact⟨rfl,rfl,0,by omega,rfl,World.ownsRow_nil _ _ _ _,Wac _ _⟩
 case round =>
  obtain⟨rfl,rfl,k,hk,rfl,hown,hbel⟩:=hrel;have hb0:=hbel.size;have HB:=Hm hbel
  by_cases hkn:k<n
  ·obtain⟨ad,c',u,hv,_,hu,hc⟩:=(HSL.o.below hbel).at_ hkn
   cases hv
   have hlk:k<l.length:=by rw[HLN.o];exact hkn
   have hu2:u=.int .i32 l[k]:=by
    unfold Qs at hu;rw[Wav,Waj hlk] at hu;simpa using hu.symm
   subst hu2
   by_cases hlt:k<pre.length
   ·have hr:U.right l[k]=true:=by
     have e:l[k]=pre[k]:=by
      have:=H.o.eq
      subst this;exact List.getElem_append_left hlt
     rw[e];exact H.o.all _ (Wau hlt)
    have he:pre[k]=l[k]:=by
     have:=H.o.eq
     subst this;exact (List.getElem_append_left hlt).symm
    have HL:(U.encs (pre.take k)).length≤4*k:=by
     have:=Qk4 (pre.take k)
     rw[Wbb] at this;omega
    generalize l[k]=r at hr he hc;have HR:=Hm hr;have HE:=Hm he;have HOW:=Hm hown;clear hr he hown hbel hu hlk;go_wp2_with (first | (go_at_call 232;refine (Xx HR.o _).mono ?_;rintro e w' ⟨rfl,rfl⟩) | (go_at_call 297;refine (JO HR.o HOW.o hb0 (by omega)).mono ?_;rintro e w' ⟨v',rfl,hown',hbel'⟩))
    have e1:U.encs (pre.take (k+1))=U.encs (pre.take k)++U.enc r:=by
     rw[Wag hlt,U.encs_append,U.encs_cons,U.encs_nil,Wam,HE.o]
    rw[← Qbx,← e1] at hown';have e2:(U.encs (pre.take k)).length+U.wid r=(U.encs (pre.take (k+1))).length:=by rw[e1,Wad,U.enc_length]
    rw[e2] at hown';refine⟨⟨rfl,rfl,k+1,by omega,by go_num,hown',HB.o.trans hbel'⟩,?_⟩;simp only[intOf];omega
   ·obtain rfl:k=pre.length:=by omega
    have hr:U.right l[pre.length]=false:=by
     have:=H.o.eq
     have hl2:pre.length<(pre++rest).length:=by rw[← this];exact hlk
     have hrl:0<rest.length:=by simpa using hl2
     match hrest:rest,hrl with
     | r :: t,_ =>
      have e:l[pre.length]=r:=by subst this;simp
      rw[e];exact H.o.bad r t rfl
    have hne:rest≠[]:=by
     intro hr0
     have:=H.o.eq
     rw[hr0,Wam] at this;subst this;omega
    generalize l[pre.length]=r at hr hc;have HR:=Hm hr;have HNE:=Hm hne;clear hr hown hbel hu hlk hne hlt;go_wp2_with (first | (go_at_call 232;refine (Qbs HR.o _).mono ?_;rintro e w' ⟨rfl,rfl⟩))
    go_ret2
    exact⟨HB.o.alloc (by omega) _,fun h=>absurd h HNE.o,fun _=>⟨wr.heap.size,rfl,Wbc wr _⟩⟩
  ·obtain rfl:k=pre.length:=by omega
   have hrest:rest=[]:=by
    have:=congrArg List.length H.o.eq
    rw[HLN.o,Wad] at this;exact List.eq_nil_of_length_eq_zero (by omega)
   rw[Wbe] at hown;have hsl:=Sl.of_own hown;have hcv:=XW (P:=prog) underlying54 underlying5 underlying9 hsl;have HRE:=Hm hrest;clear hown hbel hsl hrest;go_wp2_with fail;go_ret2
   exact⟨HB.o,fun _=>rfl,fun h=>absurd HRE.o h⟩
end
section
open Go.RowKit
theorem Qba:El prog 192 245 1 2:=El.mk' underlying192 (by kernel_rfl) (by decide)
def Qt (l:List Int):List Value:=l.map (.int .u16)
theorem Qbb (a b:List Int):Qt (a++b)=Qt a++Qt b:=by simp[Qt]
theorem Qd0 (r:Int)(h:0≤r)(h2:r≤1114111):bits .and .i32 r 1023=r % 1024:=by
 obtain⟨n,rfl⟩:=Was h;have e:n &&& 1023=n % 1024:=Nat.and_two_pow_sub_one_eq_mod n 10
 have h1:(BitVec.ofInt 32 (n:Int)).toNat=n:=by
  rw[BitVec.ofInt_natCast,BitVec.toNat_ofNat];exact Nat.mod_eq_of_lt (by omega)
 show IntKind.i32.wrap ((BitVec.ofInt 32 (n:Int) &&& BitVec.ofInt 32 1023).toNat:Int)=_
 rw[BitVec.toNat_and,h1,show (BitVec.ofInt 32 1023).toNat=1023 from rfl,e,IntKind.wrap_i32];omega
theorem Qbc (b x:Int)(hb:b=55296∨b=56320)(h:0≤x)(h2:x<1024):bits .or .u16 b x=b+x:=by
 obtain⟨n,rfl⟩:=Was h;obtain⟨m,rfl⟩:∃ m:Nat,b=m:=⟨b.toNat,by omega⟩;rw[u16_or_nat m n (by omega) (by omega),nat_join 10 m n (by rcases hb with h | h<;>(have:(m:Int)=_:=h;omega)) (by omega)]
 rfl
def Qv2 (rs:List Int)(rest:U.Bs)(w:World)(e:Ending)(w':World):Prop :=
 Below w.heap.size w w'∧(rest=[]→∃ v,e=.returned (.tuple #[v,.nilIface])∧Sl w' 1 v (U.hvs rs).length (Qt (U.hvs rs))) ∧
  (rest≠[]→∃ g,e=.returned (.tuple #[.slice none 0 0,atV g])∧QU w' g 3 (U.off rs rs.length))
theorem Qv3 {s:U.Bs}{rs:List Int}{rest:U.Bs}(h:U.Sp s rs rest)(w:World)(hs:s.length≤35184372087808) :
  Calls prog 236 #[.string ⟨s.toArray⟩] w (Qv2 rs rest w):=by
 by_cases hr:rest=[]
 ·have hlen:=h.length;have hll:=U.len_le_off rs;have hrl:rs.length≤35184372087808:=by omega
  have H:=Hm h;have HR:=Hm hr;clear hlen hll;go_enter func236,ntmps236
  go_wp2_with (go_at_call 237;refine (JI h _ hs).mono ?_;rintro e w1 ⟨hb1,hok,_⟩;obtain⟨v,rfl,hsl⟩:=hok hr;have HSL:=Hm hsl;obtain⟨A,c,rfl,_⟩:=hsl)
  have HB1:=Hm hb1;clear hok hb1 h hr hs
  go_loopw [6,19] (fun b i wr=>∃ k:Nat,k≤rs.length∧i=.int .i64 k∧wr.ownsRow w1.heap.size 245 1 b (U.hoff rs k) (Qt (U.hvs (rs.take k)))∧Below w1.heap.size w1 wr) (fun _ i _=>rs.length-(intOf i).toNat)
  case atStart=>exact⟨0,by omega,rfl,World.ownsRow_nil _ _ _ _,Wac _ _⟩
  case round =>
   obtain⟨k,hk,rfl,hown,hbel⟩:=hrel;have hb0:=hbel.size;have HB:=Hm hbel
   by_cases hkn:k<rs.length
   ·obtain⟨ad,c',u,hv,_,hu,hc⟩:=(HSL.o.below hbel).at_ hkn
    cases hv
    have hu2:u=.int .i32 rs[k]:=by
     unfold Qs at hu;rw[Wav,Waj hkn] at hu;simpa using hu.symm
    subst hu2;have hrr:=U.right_iff.1 (H.o.all _ (Wau hkn));have HHO:=Hm (U.hoff_succ hkn);have HTK:Hd (U.hvs (rs.take (k+1))=U.hvs (rs.take k)++U.hv rs[k]):=⟨by rw[Wag hkn,U.hvs_append,U.hvs_cons,U.hvs_nil,Wam]⟩
    have hol:U.hoff rs k≤2*k:=by
     have:=U.hvs_len_le (rs.take k)
     rw[Wbb] at this;unfold U.hoff;omega
    generalize rs[k]=r at hrr hc HHO HTK;have hr0:0≤r:=by omega
    have hr1:r≤1114111:=by omega
    have HOW:=Hm hown;clear hrr hown hbel hu
    by_cases hsm:r<65536
    ·have e1:U.hv r=[r]:=by unfold U.hv;rw[if_pos hsm]
     have e2:U.hwid r=1:=by unfold U.hwid;rw[if_pos hsm]
     have HE:=Hm (Wao e1 e2);clear e1 e2;go_wp2_with (at_builtin;refine Yw Qba #[.int .u16 r] HOW.o rfl rfl rfl rfl rfl (YI rfl) (by unfold maxLen;omega) (by omega) hb0 ?_;intro v1 w2 hown1 hbel1 _)
     refine⟨⟨k+1,by omega,by go_num,?_,HB.o.trans hbel1⟩,?_⟩
     ·rw[HHO.o,HTK.o,HE.o.1,HE.o.2,Qbb];exact hown1
     ·simp only[intOf];omega
    ·have e1:U.hv r=[55296+(r-65536) / 1024,56320+(r-65536) % 1024]:=by unfold U.hv;rw[if_neg hsm]
     have e2:U.hwid r=2:=by unfold U.hwid;rw[if_neg hsm]
     have HE:=Hm (Wao e1 e2);have o1:=Qbc 55296 ((r-65536) / 1024) (.inl rfl) (by omega) (by omega);have o2:=Qd0 (r-65536) (by omega) (by omega);have o3:=Qbc 56320 ((r-65536) % 1024) (.inr rfl) (by omega) (by omega);clear e1 e2;go_wp2_with (at_builtin;refine Yw Qba #[.int .u16 (55296+(r-65536) / 1024),.int .u16 (56320+(r-65536) % 1024)] HOW.o rfl rfl rfl rfl rfl (Qdf rfl rfl) (by unfold maxLen;omega) (by omega) hb0 ?_;intro v1 w2 hown1 hbel1 _)
     refine⟨⟨k+1,by omega,by go_num,?_,HB.o.trans hbel1⟩,?_⟩
     ·rw[HHO.o,HTK.o,HE.o.1,HE.o.2,Qbb];exact hown1
     ·simp only[intOf];omega
   ·obtain rfl:k=rs.length:=by omega
    rw[Wbe,U.hoff_full] at hown;have hsl:=Sl.of_own hown;have HS2:=Hm hsl;clear hown hbel hsl;go_wp2_with fail;go_ret2
    exact⟨HB1.o.trans (HB.o.mono HB1.o.size),fun _=>⟨_,rfl,HS2.o⟩,fun h=>absurd HR.o h⟩
 ·go_enter func236,ntmps236
  go_wp2_with (go_at_call 237;refine (JI h _ hs).mono ?_;rintro e w1 ⟨hb1,_,hbad⟩;obtain⟨g,rfl,hat⟩:=hbad hr)
  go_ret2
  exact⟨hb1,fun h=>absurd h hr,fun _=>⟨g,rfl,hat⟩⟩
def Qv4 (pre rest:List Int)(w:World)(e:Ending)(w':World):Prop :=
 Below w.heap.size w w'∧(rest=[]→e=.returned (.tuple #[.string ⟨(U.encs pre).toArray⟩,.nilIface])) ∧
  (rest≠[]→∃ g,e=.returned (.tuple #[.string ⟨#[]⟩,atV g])∧QU w' g 3 (U.hoff pre pre.length))
theorem XZ {w:World}{l:List Int}{A:Option Addr}{n c:Nat}(h:Sl w 1 (.slice A n c) n (Qt l)){k:Nat}(hk:k<n){x:Int}(hx:l[k]?=some x) :
  ∃ ad,A=some ad∧w.cell? (ad.add k)=some (.int .u16 x):=by
 obtain⟨ad,c',u,hv,_,hu,hc⟩:=h.at_ hk
 cases hv
 refine⟨ad,rfl,?_⟩;unfold Qt at hu;rw[Wav,hx] at hu;simp only[Option.map_some,Option.some.injEq] at hu;subst hu;exact hc
theorem Qv5 {l pre rest:List Int}{v:Value}{n:Nat}{w:World}(h:U.Hp l pre rest)(hin:U.InH l)(hsl:Sl w 1 v n (Qt l))(hn:n≤4398046511104) :
  Calls prog 258 #[v] w (Qv4 pre rest w):=by
 have hln:l.length=n:=by have:=hsl.len;simpa [Qt] using this
 have HLEN:=Hm h.length;have hpl:U.hoff pre pre.length≤n:=by have:=HLEN.o;omega
 have HLN:=Hm hln;have HSL:=Hm hsl;have HIN:=Hm hin;obtain⟨A,c,rfl,_⟩:=hsl;have H:=Hm h;clear h hln hin;go_enter func258,ntmps258
 go_wp2_with fail
 go_loopw [2,3,4,5] (fun t e b i wr=>t=.string ⟨#[]⟩∧e=.nilIface∧∃ k:Nat,k≤pre.length∧i=.int .i64 (U.hoff pre k)∧wr.ownsRow w.heap.size 5 1 b (U.encs (pre.take k)).length (u8s (U.encs (pre.take k)))∧Below w.heap.size w wr) (fun _ _ _ i _=>n-(intOf i).toNat)
 case atStart=>exact⟨rfl,rfl,0,by omega,rfl,World.ownsRow_nil _ _ _ _,Wac _ _⟩
 case round =>
  obtain⟨rfl,rfl,k,hk,rfl,hown,hbel⟩:=hrel;have hb0:=hbel.size;have HB:=Hm hbel;have hok:U.hoff pre k≤U.hoff pre pre.length:=U.hoff_le hk
  by_cases hkp:k<pre.length
  ·have hol:=U.hoff_lt hkp;have hr:U.right pre[k]=true:=H.o.all _ (Wau hkp);have hrr:=U.right_iff.1 hr;have hat:=H.o.at_ hkp;have HHO:=Hm (U.hoff_succ hkp);have HTK:Hd (U.encs (pre.take (k+1))=U.encs (pre.take k)++U.enc pre[k]):=⟨by rw[Wag hkp,U.encs_append,U.encs_cons,U.encs_nil,Wam]⟩;have hnx:U.hoff pre (k+1)≤U.hoff pre pre.length:=U.hoff_le hkp;rw[HHO.o] at hnx;have HEL:(U.encs (pre.take k)).length≤4*U.hoff pre k:=U.encs_le_hvs (pre.take k);generalize pre[k]=r at hr hrr hat HHO HTK hnx;have HOW:=Hm hown
   by_cases hsm:r<65536
   ·have e1:U.hv r=[r]:=by unfold U.hv;rw[if_pos hsm]
    have e2:U.hwid r=1:=by unfold U.hwid;rw[if_pos hsm]
    have h0:=hat 0 (by omega);rw[e1,Nat.add_zero] at h0;obtain⟨ad,rfl,hc⟩:=XZ (HSL.o.below hbel) (by omega) h0;have HE:=Hm e2;have HR:=Hm hr;have hr0:0≤r:=by omega
    rw[e2] at hnx;clear e1 e2 hat hr h0 hown hbel
    have fin:∀ (v1:Value) (w1:World),w1.ownsRow w.heap.size 5 1 v1 ((U.encs (pre.take k)).length+U.wid r) (u8s (U.encs (pre.take k))++u8s (U.enc r)) →
      w1.ownsRow w.heap.size 5 1 v1 (U.encs (pre.take (k+1))).length (u8s (U.encs (pre.take (k+1)))):=fun v1 w1 ho=>by
     rw[HTK.o,Qbx,Wad,U.enc_length];exact ho
    have FIN:=Hm fin;clear fin
    by_cases hlo:r<55296
    ·clear hrr;go_wp2_with (go_at_call 297;refine (JO HR.o HOW.o hb0 (by omega)).mono ?_;rintro e w' ⟨v',rfl,hown',hbel'⟩)
     refine⟨⟨rfl,rfl,k+1,by omega,by rw[HHO.o,HE.o];go_num,FIN.out _ _ hown',HB.o.trans hbel'⟩,?_⟩;simp only[intOf];omega
    ·have hlo2:57344≤r:=by omega
     clear hrr;go_wp2_with (go_at_call 297;refine (JO HR.o HOW.o hb0 (by omega)).mono ?_;rintro e w' ⟨v',rfl,hown',hbel'⟩)
     refine⟨⟨rfl,rfl,k+1,by omega,by rw[HHO.o,HE.o];go_num,FIN.out _ _ hown',HB.o.trans hbel'⟩,?_⟩;simp only[intOf];omega
   ·have e1:U.hv r=[55296+(r-65536) / 1024,56320+(r-65536) % 1024]:=by unfold U.hv;rw[if_neg hsm]
    have e2:U.hwid r=2:=by unfold U.hwid;rw[if_neg hsm]
    have h0:=hat 0 (by omega);have h1:=hat 1 (by omega);rw[e1,Nat.add_zero] at h0;rw[e1] at h1;rw[e2] at hnx;obtain⟨ad,rfl,hc⟩:=XZ (HSL.o.below hbel) (by omega) h0;obtain⟨ad',hA,hc'⟩:=XZ (HSL.o.below hbel) (by omega) h1
    cases hA
    rw[Qhn] at hc';have ER:Hd (65536+(55296+(r-65536) / 1024) % 1024*1024+(56320+(r-65536) % 1024) % 1024=r):=⟨by omega⟩;have HE:=Hm e2;have HR:=Hm hr
    have FIN:Hd (∀ (v1:Value) (w1:World),w1.ownsRow w.heap.size 5 1 v1 ((U.encs (pre.take k)).length+U.wid r) (u8s (U.encs (pre.take k))++u8s (U.enc r)) →
      w1.ownsRow w.heap.size 5 1 v1 (U.encs (pre.take (k+1))).length (u8s (U.encs (pre.take (k+1))))):=⟨fun v1 w1 ho=>by
     rw[HTK.o,Qbx,Wad,U.enc_length];exact ho⟩
    have hp1:55296≤55296+(r-65536) / 1024:=by omega
    have hp2:55296+(r-65536) / 1024<56320:=by omega
    have hq1:56320≤56320+(r-65536) % 1024:=by omega
    have hq2:56320+(r-65536) % 1024<57344:=by omega
    clear hat hr hrr h0 h1 hown hbel e1 e2 hsm;generalize 55296+(r-65536) / 1024=p at *;generalize 56320+(r-65536) % 1024=q at *;have a1:=Qd0 p (by omega) (by omega)
    have a2:bits .and .u16 q 1023=q % 1024:=by
     obtain⟨m,rfl⟩:=Was (show 0≤q by omega);rw[show (1023:Int)=((1023:Nat):Int) from rfl,u16_and_nat m 1023 (by omega) (by omega),nat_mask10];rfl
    go_wp2_with (go_at_call 297;refine (JO (by rw[ER.out];exact HR.o) HOW.o hb0 (by omega)).mono ?_;rintro e w' ⟨v',rfl,hown',hbel'⟩)
    rw[ER.out] at hown';refine⟨⟨rfl,rfl,k+1,by omega,by rw[HHO.o,HE.o];go_num,FIN.out _ _ hown',HB.o.trans hbel'⟩,?_⟩;simp only[intOf];omega
  ·obtain rfl:k=pre.length:=by omega
   rw[Wbe] at hown;clear hok hk hkp
   by_cases hr:rest=[]
   ·have hnn:U.hoff pre pre.length=n:=by
     have:=HLEN.o
     rw[hr] at this;have h2:=HLN.o;simp at this;omega
    have hge:¬ U.hoff pre pre.length<n:=by omega
    have hsl:=Sl.of_own hown;have hcv:=XW (P:=prog) underlying54 underlying5 underlying9 hsl;have HRE:=Hm hr;clear hown hbel hsl hr hnn;go_wp2_with fail;go_ret2
    exact⟨HB.o,fun _=>rfl,fun h=>absurd HRE.o h⟩
   ·have hend:=H.o.end_;have hbad:=H.o.bad;have hlr:=HLEN.o;rw[HLN.o] at hlr;have HNE:=Hm hr
    cases rest with
    | nil=>exact absurd rfl hr
    | cons a t =>
    cases t with
    | nil =>
     have hn1:n=U.hoff pre pre.length+1:=by simpa using hlr
     have h0:=hend 0;rw[Nat.add_zero] at h0;obtain⟨ad,rfl,hc⟩:=XZ (HSL.o.below hbel) (by omega) h0;obtain⟨ha1,ha2⟩:55296≤a∧a<57344:=hbad;have hn2:U.hoff pre pre.length<n:=by omega
     have hn3:¬ U.hoff pre pre.length+1<n:=by omega
     have hn4:U.hoff pre pre.length+1≤4398046511104:=by omega
     clear hown hbel hend hlr hn1 h0
     by_cases hhi:a<56320
     ·go_wp2_with fail;go_ret2
      exact⟨HB.o.alloc (by omega) _,fun h=>absurd h HNE.o,fun _=>⟨wr.heap.size,rfl,Wbc wr _⟩⟩
     ·go_wp2_with fail;go_ret2
      exact⟨HB.o.alloc (by omega) _,fun h=>absurd h HNE.o,fun _=>⟨wr.heap.size,rfl,Wbc wr _⟩⟩
    | cons b t =>
     have hn1:n=U.hoff pre pre.length+(t.length+2):=by simpa using hlr
     have h0:=hend 0;have h1:=hend 1;rw[Nat.add_zero] at h0;obtain⟨ad,rfl,hc⟩:=XZ (HSL.o.below hbel) (by omega) h0;obtain⟨ad',hA,hc'⟩:=XZ (HSL.o.below hbel) (by omega) h1
     cases hA
     rw[Qhn] at hc';obtain⟨ha1,ha2,hab⟩:55296≤a∧a<57344∧(56320≤a∨b<56320∨57344≤b):=hbad;have hn2:U.hoff pre pre.length<n:=by omega
     have hn3:U.hoff pre pre.length+1<n:=by omega
     have hn4:U.hoff pre pre.length+1≤4398046511104:=by omega
     have hbb:0≤b∧b<65536:=by
      have:=HIN.o b (by rw[H.o.eq];simp)
      exact this
     obtain⟨hb1,hb2⟩:=hbb;clear hown hbel hend hlr hn1 h0 h1
     by_cases hhi:a<56320
     ·by_cases hlo:b<56320
      ·clear hab;go_wp2_with fail;go_ret2
       exact⟨HB.o.alloc (by omega) _,fun h=>absurd h HNE.o,fun _=>⟨wr.heap.size,rfl,Wbc wr _⟩⟩
      ·have hlo2:57344≤b:=by omega
       clear hab;go_wp2_with fail;go_ret2
       exact⟨HB.o.alloc (by omega) _,fun h=>absurd h HNE.o,fun _=>⟨wr.heap.size,rfl,Wbc wr _⟩⟩
     ·clear hab;go_wp2_with fail;go_ret2
      exact⟨HB.o.alloc (by omega) _,fun h=>absurd h HNE.o,fun _=>⟨wr.heap.size,rfl,Wbc wr _⟩⟩
end
end Go.Proofs.YtckkgdmkfbkaoaaGreatDoor
