/- Texts of the proof. -/
import Derived.Test.YtckkgdmkfbkaoaaGreatDoorProg
import Derived.Test.YtckkgdmkfbkaoaaGreatDoorM1
import Derived.WalkSpells
import Derived.Outline
namespace Go.Proofs.YtckkgdmkfbkaoaaGreatDoor
open Go.Proofs.Tryz
set_option maxRecDepth 100000
set_option maxHeartbeats 32000000
set_option linter.all false
open Go.RowKit
theorem idx0 (a:UInt8)(l:List UInt8)(h):({ data:=(a :: l).toArray }:ByteArray)[0]'h=a:=rfl
theorem idx1 (a b:UInt8)(l:List UInt8)(h):({ data:=(a :: b :: l).toArray }:ByteArray)[1]'h=b:=rfl
theorem idx2 (a b c:UInt8)(l:List UInt8)(h):({ data:=(a :: b :: c :: l).toArray }:ByteArray)[2]'h=c:=rfl
theorem idx3 (a b c d:UInt8)(l:List UInt8)(h):({ data:=(a :: b :: c :: d :: l).toArray }:ByteArray)[3]'h=d:=rfl
theorem Qem (c:UInt8):bits .and .u8 (c.toNat:Int) 192=((c.toNat / 64*64:Nat):Int):=by
 rw[show (192:Int)=((192:Nat):Int) from rfl,u8_and_nat _ _ c.toNat_lt (by decide)]
 have:∀ n:Fin 256,n.val &&& 192=n.val / 64*64:=by decide +kernel
 rw[this ⟨c.toNat,c.toNat_lt⟩]
theorem ZO {c:UInt8}(h:U.cont c=true):(bits .and .u8 (c.toNat:Int) 192 != 128)=false:=by
 have:=U.cont_iff.1 h
 rw[Qem,bne_eq_false_iff_eq];omega
theorem YQ {c:UInt8}(h:¬ U.cont c=true):(bits .and .u8 (c.toNat:Int) 192 != 128)=true:=by
 have h2:=mt U.cont_iff.2 h
 have:=c.toNat_lt
 rw[Qem,bne_iff_ne];omega
theorem Qkg (x y k:Nat)(hx:x*k<2147483648)(hk:k=64)(hy:y<64):bits .or .i32 ((x*k:Nat):Int) (y:Int)=((x*k+y:Nat):Int):=by
 subst hk;have e:(x*64) ||| y=x*64+y:=nat_join 6 (x*64) y (by omega) hy
 have h1:(BitVec.ofInt 32 ((x*64:Nat):Int)).toNat=x*64:=by
  rw[BitVec.ofInt_natCast,BitVec.toNat_ofNat];exact Nat.mod_eq_of_lt (by omega)
 have h2:(BitVec.ofInt 32 (y:Int)).toNat=y:=by
  rw[BitVec.ofInt_natCast,BitVec.toNat_ofNat];exact Nat.mod_eq_of_lt (by omega)
 show IntKind.i32.wrap ((BitVec.ofInt 32 ((x*64:Nat):Int) ||| BitVec.ofInt 32 (y:Int)).toNat:Int)=_
 rw[BitVec.toNat_or,h1,h2,e,IntKind.wrap_i32]
 have:=Nat.or_lt_two_pow (n:=31) (x:=x*64) (y:=y) (by omega) (by omega)
 rw[e] at this;omega
theorem XG (x y:Int)(h0:0≤x)(hx:x*64<2147483648)(hy0:0≤y)(hy:y<64):bits .or .i32 (x*64) y=x*64+y:=by
 obtain⟨x,rfl⟩:=Was h0;obtain⟨y,rfl⟩:=Was hy0
 have:=Qkg x y 64 (by omega) rfl (by omega)
 simpa using this
theorem or2 (a b:UInt8):bits .or .i32 ((a.toNat:Int) % 32*64) ((b.toNat:Int) % 64)=U.r2 a b:=XG _ _ (by omega) (by omega) (by omega) (by omega)
theorem or3a (a b:UInt8):bits .or .i32 ((a.toNat:Int) % 16*64) ((b.toNat:Int) % 64)=(a.toNat:Int) % 16*64+(b.toNat:Int) % 64:=XG _ _ (by omega) (by omega) (by omega) (by omega)
theorem or4a (a b:UInt8):bits .or .i32 ((a.toNat:Int) % 8*64) ((b.toNat:Int) % 64)=(a.toNat:Int) % 8*64+(b.toNat:Int) % 64:=XG _ _ (by omega) (by omega) (by omega) (by omega)
theorem or3 (a b c:UInt8):bits .or .i32 (((a.toNat:Int) % 16*64+(b.toNat:Int) % 64)*64) ((c.toNat:Int) % 64)=U.r3 a b c:=XG _ _ (by omega) (by omega) (by omega) (by omega)
theorem or4b (a b c:UInt8):bits .or .i32 (((a.toNat:Int) % 8*64+(b.toNat:Int) % 64)*64) ((c.toNat:Int) % 64)=((a.toNat:Int) % 8*64+(b.toNat:Int) % 64)*64+(c.toNat:Int) % 64:=XG _ _ (by omega) (by omega) (by omega) (by omega)
theorem or4 (a b c d:UInt8):bits .or .i32 ((((a.toNat:Int) % 8*64+(b.toNat:Int) % 64)*64+(c.toNat:Int) % 64)*64) ((d.toNat:Int) % 64)=U.r4 a b c d:=XG _ _ (by omega) (by omega) (by omega) (by omega)
def szc (c:Nat):Int × Int:=if c<128 then (1,c) else if c<194 then (0,0) else if c<224 then (2,(c:Int) % 32) else if c<240 then (3,(c:Int) % 16) else if c<245 then (4,(c:Int) % 8) else (0,0)
theorem Qkh (c:UInt8)(w:World) :
  Calls prog 231 #[.int .u8 c.toNat] w fun e w'=>e=.returned (.tuple #[.int .i64 (szc c.toNat).1,.int .i32 (szc c.toNat).2])∧w=w':=by
 have h2:=c.toNat_lt;generalize c.toNat=n at h2 ⊢;go_enter func231,ntmps231
 go_wp2
 all_goals go_ret2
 all_goals refine⟨?_,rfl⟩
 all_goals unfold szc
 ·rw[if_pos (by omega)];rfl
 ·rw[if_neg (by omega),if_neg (by omega),if_pos (by omega)];rfl
 ·rw[if_neg (by omega),if_neg (by omega),if_neg (by omega),if_pos (by omega)];rfl
 ·rw[if_neg (by omega),if_neg (by omega),if_neg (by omega),if_neg (by omega),if_pos (by omega)];rfl
 ·rw[if_neg (by omega),if_neg (by omega),if_neg (by omega),if_neg (by omega),if_neg (by omega)];rfl
 ·rw[if_neg (by omega),if_pos (by omega)];rfl
theorem Qki {r:Int}(b:Bool)(h:(b=true)↔(0≤r∧r<55296)∨(57344≤r∧r≤1114111)):Ending.returned (.bool b)=.returned (.bool (U.right r)):=by
 rw[Bool.eq_iff_iff.2 (h.trans U.right_iff.symm)]
theorem Qen (r:Int)(w:World) :
  Calls prog 232 #[.int .i32 r] w fun e w'=>e=.returned (.bool (U.right r))∧w=w':=by
 go_enter func232,ntmps232
 go_wp2
 all_goals go_ret
 all_goals refine⟨Qki _ ?_,rfl⟩
 all_goals simp
 all_goals omega
theorem Xx {r:Int}(h:U.right r=true)(w:World) :
  Calls prog 232 #[.int .i32 r] w fun e w'=>e=.returned (.bool true)∧w=w':=h ▸ Qen r w
theorem Qbs {r:Int}(h:U.right r=false)(w:World) :
  Calls prog 232 #[.int .i32 r] w fun e w'=>e=.returned (.bool false)∧w=w':=h ▸ Qen r w
theorem size_at {c:UInt8}{n x:Int}(h:szc c.toNat=(n,x))(w:World) :
  Calls prog 231 #[.int .u8 c.toNat] w fun e w'=>e=.returned (.tuple #[.int .i64 n,.int .i32 x])∧w=w':=by
 have:=Qkh c w
 rw[h] at this;exact this
def ZP (s:U.Bs):Value:=.tuple #[.int .i32 (U.next s).1,.int .i64 (U.next s).2]
theorem Zu {s:U.Bs}{r:Int}{n:Nat}(h:U.next s=(r,n)):Ending.returned (.tuple #[.int .i32 r,.int .i64 n])=.returned (ZP s):=by
 unfold ZP;rw[h]
section
attribute [local go_sem] idx0 idx1 idx2 idx3 or2 or3a or3 or4a or4b or4
attribute [local irreducible] U.r3 U.r4
theorem Qkj (w:World):Calls prog 181 #[.string ⟨#[]⟩] w fun e w'=>e=.returned (ZP [])∧w=w':=by
 go_enter func181,ntmps181
 go_wp2_with fail;go_ret2
 exact⟨rfl,rfl⟩
theorem Qkk (a:UInt8)(t:U.Bs)(w:World)(_hl:t.length≤140737488351232)(h1:a.toNat<128) :
  Calls prog 181 #[.string ⟨(a :: t).toArray⟩] w fun e w'=>e=.returned (ZP (a :: t))∧w=w':=by
 have hn:U.next (a :: t)=((a.toNat:Int),1):=by simp only[U.next];rw[if_pos h1]
 have hr:U.right (a.toNat:Int)=true:=U.right_iff.2 (by omega);have hs:szc a.toNat=(1,(a.toNat:Int)):=by unfold szc;rw[if_pos h1]
 have HN:=Hm hn;have HS:=Hm hs;have HR:=Hm hr;clear hn hs hr;go_enter func181,ntmps181
 go_wp2_with (go_at_call 231;refine (size_at HS.o _).mono ?_;rintro e w' ⟨rfl,rfl⟩)
 refine wp_loop_rounds 1 ?_;rw[rounds_succ];go_wp2_with (go_at_call 232;refine (Xx HR.o _).mono ?_;rintro e w' ⟨rfl,rfl⟩)
 go_ret2
 exact⟨Zu HN.o,rfl⟩
theorem Qeo (a:UInt8)(t:U.Bs)(w:World)(_hl:t.length≤140737488351232)(h1:128≤a.toNat)(h2:a.toNat<194∨245≤a.toNat) :
  Calls prog 181 #[.string ⟨(a :: t).toArray⟩] w fun e w'=>e=.returned (ZP (a :: t))∧w=w':=by
 have hn:U.next (a :: t)=(0,0):=by
  simp only[U.next];rw[if_neg (by omega)];rcases h2 with h2 | h2
  ·rw[if_pos h2]
  ·rw[if_neg (by omega),if_neg (by omega),if_neg (by omega),if_neg (by omega)]
 have hs:szc a.toNat=(0,0):=by
  unfold szc;rw[if_neg (by omega)];rcases h2 with h2 | h2
  ·rw[if_pos h2]
  ·rw[if_neg (by omega),if_neg (by omega),if_neg (by omega),if_neg (by omega)]
 have HN:=Hm hn;have HS:=Hm hs;clear hn hs h2;go_enter func181,ntmps181
 go_wp2_with (go_at_call 231;refine (size_at HS.o _).mono ?_;rintro e w' ⟨rfl,rfl⟩)
 go_ret2
 exact⟨Zu HN.o,rfl⟩
theorem Qbt (a:UInt8)(t:U.Bs)(n:Nat)(x:Int)(w:World)(hs:szc a.toNat=((n:Int),x))(h0:0<n)(hl:t.length+1<n)(h4:n≤4)(hn:U.next (a :: t)=(0,0)) :
  Calls prog 181 #[.string ⟨(a :: t).toArray⟩] w fun e w'=>e=.returned (ZP (a :: t))∧w=w':=by
 have HN:=Hm hn;have HS:=Hm hs;clear hn hs;go_enter func181,ntmps181
 go_wp2_with (go_at_call 231;refine (size_at HS.o _).mono ?_;rintro e w' ⟨rfl,rfl⟩)
 go_ret2
 exact⟨Zu HN.o,rfl⟩
theorem Qkl (a b:UInt8)(t:U.Bs)(w:World)(hl:t.length≤140737488351232)(h1:194≤a.toNat)(h2:a.toNat<224) :
  Calls prog 181 #[.string ⟨(a :: b :: t).toArray⟩] w fun e w'=>e=.returned (ZP (a :: b :: t))∧w=w':=by
 have hs:szc a.toNat=(2,(a.toNat:Int) % 32):=by unfold szc;rw[if_neg (by omega),if_neg (by omega),if_pos (by omega)]
 have HS:=Hm hs;have hb:=b.toNat_lt
 have e:U.next (a :: b :: t)=if U.cont b=true then (U.r2 a b,2) else (0,0):=by
  simp only[U.next];rw[if_neg (by omega),if_neg (by omega),if_pos (by omega)]
 clear hs
 by_cases hc:U.cont b=true
 ·rw[if_pos hc] at e;have hcb:=ZO hc;have hr:U.right (U.r2 a b)=true:=U.right_iff.2 (by unfold U.r2;omega);have HN:=Hm e;have HR:=Hm hr;clear e hc hr;go_enter func181,ntmps181
  go_wp2_with (go_at_call 231;refine (size_at HS.o _).mono ?_;rintro e w' ⟨rfl,rfl⟩)
  refine wp_loop_rounds 2 ?_;rw[rounds_succ];go_wp2_with fail;rw[rounds_succ];go_wp2_with (go_at_call 232;refine (Xx HR.o _).mono ?_;rintro e w' ⟨rfl,rfl⟩)
  go_ret2
  exact⟨Zu HN.o,rfl⟩
 ·rw[if_neg hc] at e;have hcb:=YQ hc;have HN:=Hm e;clear e hc;go_enter func181,ntmps181
  go_wp2_with (go_at_call 231;refine (size_at HS.o _).mono ?_;rintro e w' ⟨rfl,rfl⟩)
  refine wp_loop_rounds 1 ?_;rw[rounds_succ];go_wp2_with fail;go_ret2
  exact⟨Zu HN.o,rfl⟩
theorem Qkm (a b c:UInt8)(t:U.Bs)(w:World)(hl:t.length≤140737488351232)(h1:224≤a.toNat)(h2:a.toNat<240) :
  Calls prog 181 #[.string ⟨(a :: b :: c :: t).toArray⟩] w fun e w'=>e=.returned (ZP (a :: b :: c :: t))∧w=w':=by
 have hs:szc a.toNat=(3,(a.toNat:Int) % 16):=by unfold szc;rw[if_neg (by omega),if_neg (by omega),if_neg (by omega),if_pos (by omega)]
 have HS:=Hm hs;have hb:=b.toNat_lt;have hc:=c.toNat_lt
 have e:U.next (a :: b :: c :: t)=if U.cont b=true∧U.cont c=true∧U.right (U.r3 a b c)=true∧2048≤U.r3 a b c then (U.r3 a b c,3) else (0,0):=by
  simp only[U.next];rw[if_neg (by omega),if_neg (by omega),if_neg (by omega),if_pos (by omega)]
 clear hs
 by_cases kb:U.cont b=true
 case neg =>
  rw[if_neg (fun h=>kb h.1)] at e;have hcb:=YQ kb;have HN:=Hm e;clear e kb;go_enter func181,ntmps181
  go_wp2_with (go_at_call 231;refine (size_at HS.o _).mono ?_;rintro e w' ⟨rfl,rfl⟩)
  refine wp_loop_rounds 1 ?_;rw[rounds_succ];go_wp2_with fail;go_ret2
  exact⟨Zu HN.o,rfl⟩
 by_cases kc:U.cont c=true
 case neg =>
  rw[if_neg (fun h=>kc h.2.1)] at e;have hcb:=ZO kb;have hcc:=YQ kc;have HN:=Hm e;clear e kb kc;go_enter func181,ntmps181
  go_wp2_with (go_at_call 231;refine (size_at HS.o _).mono ?_;rintro e w' ⟨rfl,rfl⟩)
  refine wp_loop_rounds 2 ?_;rw[rounds_succ];go_wp2_with fail;rw[rounds_succ];go_wp2_with fail;go_ret2
  exact⟨Zu HN.o,rfl⟩
 have hcb:=ZO kb;have hcc:=ZO kc
 by_cases kr:U.right (U.r3 a b c)=true
 case neg =>
  rw[if_neg (fun h=>kr h.2.2.1)] at e;have HN:=Hm e;have HR:=Hm (Bool.eq_false_iff.2 kr);clear e kb kc kr;go_enter func181,ntmps181
  go_wp2_with (go_at_call 231;refine (size_at HS.o _).mono ?_;rintro e w' ⟨rfl,rfl⟩)
  refine wp_loop_rounds 3 ?_;rw[rounds_succ];go_wp2_with fail;rw[rounds_succ];go_wp2_with fail;rw[rounds_succ];go_wp2_with (go_at_call 232;refine (Qbs HR.o _).mono ?_;rintro e w' ⟨rfl,rfl⟩)
  go_ret2
  exact⟨Zu HN.o,rfl⟩
 by_cases ku:2048≤U.r3 a b c
 case neg =>
  rw[if_neg (fun h=>ku h.2.2.2)] at e;have HN:=Hm e;have HR:=Hm kr;have hlo:U.r3 a b c<2048:=by omega
  clear e kb kc kr ku;go_enter func181,ntmps181
  go_wp2_with (go_at_call 231;refine (size_at HS.o _).mono ?_;rintro e w' ⟨rfl,rfl⟩)
  refine wp_loop_rounds 3 ?_;rw[rounds_succ];go_wp2_with fail;rw[rounds_succ];go_wp2_with fail;rw[rounds_succ];go_wp2_with (go_at_call 232;refine (Xx HR.o _).mono ?_;rintro e w' ⟨rfl,rfl⟩)
  go_ret2
  exact⟨Zu HN.o,rfl⟩
 case pos =>
  rw[if_pos ⟨kb,kc,kr,ku⟩] at e;have HN:=Hm e;have HR:=Hm kr;clear e kb kc kr;go_enter func181,ntmps181
  go_wp2_with (go_at_call 231;refine (size_at HS.o _).mono ?_;rintro e w' ⟨rfl,rfl⟩)
  refine wp_loop_rounds 3 ?_;rw[rounds_succ];go_wp2_with fail;rw[rounds_succ];go_wp2_with fail;rw[rounds_succ];go_wp2_with (go_at_call 232;refine (Xx HR.o _).mono ?_;rintro e w' ⟨rfl,rfl⟩)
  go_ret2
  exact⟨Zu HN.o,rfl⟩
theorem Qkn (a b c d:UInt8)(t:U.Bs)(w:World)(hl:t.length≤140737488351232)(h1:240≤a.toNat)(h2:a.toNat<245) :
  Calls prog 181 #[.string ⟨(a :: b :: c :: d :: t).toArray⟩] w fun e w'=>e=.returned (ZP (a :: b :: c :: d :: t))∧w=w':=by
 have hs:szc a.toNat=(4,(a.toNat:Int) % 8):=by unfold szc;rw[if_neg (by omega),if_neg (by omega),if_neg (by omega),if_neg (by omega),if_pos (by omega)]
 have HS:=Hm hs;have hb:=b.toNat_lt;have hc:=c.toNat_lt;have hd:=d.toNat_lt
 have e:U.next (a :: b :: c :: d :: t)=if U.cont b=true∧U.cont c=true∧U.cont d=true∧U.right (U.r4 a b c d)=true∧65536≤U.r4 a b c d then (U.r4 a b c d,4) else (0,0):=by
  simp only[U.next];rw[if_neg (by omega),if_neg (by omega),if_neg (by omega),if_neg (by omega),if_pos (by omega)]
 clear hs
 by_cases kb:U.cont b=true
 case neg =>
  rw[if_neg (fun h=>kb h.1)] at e;have hcb:=YQ kb;have HN:=Hm e;clear e kb;go_enter func181,ntmps181
  go_wp2_with (go_at_call 231;refine (size_at HS.o _).mono ?_;rintro e w' ⟨rfl,rfl⟩)
  refine wp_loop_rounds 1 ?_;rw[rounds_succ];go_wp2_with fail;go_ret2
  exact⟨Zu HN.o,rfl⟩
 by_cases kc:U.cont c=true
 case neg =>
  rw[if_neg (fun h=>kc h.2.1)] at e;have hcb:=ZO kb;have hcc:=YQ kc;have HN:=Hm e;clear e kb kc;go_enter func181,ntmps181
  go_wp2_with (go_at_call 231;refine (size_at HS.o _).mono ?_;rintro e w' ⟨rfl,rfl⟩)
  refine wp_loop_rounds 2 ?_;rw[rounds_succ];go_wp2_with fail;rw[rounds_succ];go_wp2_with fail;go_ret2
  exact⟨Zu HN.o,rfl⟩
 by_cases kd:U.cont d=true
 case neg =>
  rw[if_neg (fun h=>kd h.2.2.1)] at e;have hcb:=ZO kb;have hcc:=ZO kc;have hcd:=YQ kd;have HN:=Hm e;clear e kb kc kd;go_enter func181,ntmps181
  go_wp2_with (go_at_call 231;refine (size_at HS.o _).mono ?_;rintro e w' ⟨rfl,rfl⟩)
  refine wp_loop_rounds 3 ?_;rw[rounds_succ];go_wp2_with fail;rw[rounds_succ];go_wp2_with fail;rw[rounds_succ];go_wp2_with fail;go_ret2
  exact⟨Zu HN.o,rfl⟩
 have hcb:=ZO kb;have hcc:=ZO kc;have hcd:=ZO kd
 by_cases kr:U.right (U.r4 a b c d)=true
 case neg =>
  rw[if_neg (fun h=>kr h.2.2.2.1)] at e;have HN:=Hm e;have HR:=Hm (Bool.eq_false_iff.2 kr);clear e kb kc kd kr;go_enter func181,ntmps181
  go_wp2_with (go_at_call 231;refine (size_at HS.o _).mono ?_;rintro e w' ⟨rfl,rfl⟩)
  refine wp_loop_rounds 4 ?_;rw[rounds_succ];go_wp2_with fail;rw[rounds_succ];go_wp2_with fail;rw[rounds_succ];go_wp2_with fail;rw[rounds_succ];go_wp2_with (go_at_call 232;refine (Qbs HR.o _).mono ?_;rintro e w' ⟨rfl,rfl⟩)
  go_ret2
  exact⟨Zu HN.o,rfl⟩
 by_cases ku:65536≤U.r4 a b c d
 case neg =>
  rw[if_neg (fun h=>ku h.2.2.2.2)] at e;have HN:=Hm e;have HR:=Hm kr;have hlo:U.r4 a b c d<65536:=by omega
  clear e kb kc kd kr ku;go_enter func181,ntmps181
  go_wp2_with (go_at_call 231;refine (size_at HS.o _).mono ?_;rintro e w' ⟨rfl,rfl⟩)
  refine wp_loop_rounds 4 ?_;rw[rounds_succ];go_wp2_with fail;rw[rounds_succ];go_wp2_with fail;rw[rounds_succ];go_wp2_with fail;rw[rounds_succ];go_wp2_with (go_at_call 232;refine (Xx HR.o _).mono ?_;rintro e w' ⟨rfl,rfl⟩)
  go_ret2
  exact⟨Zu HN.o,rfl⟩
 case pos =>
  rw[if_pos ⟨kb,kc,kd,kr,ku⟩] at e;have HN:=Hm e;have HR:=Hm kr;clear e kb kc kd kr;go_enter func181,ntmps181
  go_wp2_with (go_at_call 231;refine (size_at HS.o _).mono ?_;rintro e w' ⟨rfl,rfl⟩)
  refine wp_loop_rounds 4 ?_;rw[rounds_succ];go_wp2_with fail;rw[rounds_succ];go_wp2_with fail;rw[rounds_succ];go_wp2_with fail;rw[rounds_succ];go_wp2_with (go_at_call 232;refine (Xx HR.o _).mono ?_;rintro e w' ⟨rfl,rfl⟩)
  go_ret2
  exact⟨Zu HN.o,rfl⟩
end
theorem Qko (s:U.Bs)(w:World)(hl:s.length≤140737488351232) :
  Calls prog 181 #[.string ⟨s.toArray⟩] w fun e w'=>e=.returned (ZP s)∧w=w':=by
 match s,hl with
 | [],_=>exact Qkj w
 | a :: t,hl =>
  have hl':t.length≤140737488351232:=by simp only[Wan] at hl;omega
  by_cases h1:a.toNat<128
  ·exact Qkk a t w hl' h1
  by_cases h2:a.toNat<194
  ·exact Qeo a t w hl' (by omega) (.inl h2)
  by_cases h3:a.toNat<224
  ·match t,hl' with
   | [],_ =>
    refine Qbt a [] 2 ((a.toNat:Int) % 32) w ?_ (by omega) (by simp) (by omega) ?_
    ·unfold szc;rw[if_neg (by omega),if_neg (by omega),if_pos (by omega)];rfl
    ·simp only[U.next];rw[if_neg (by omega),if_neg (by omega),if_pos (by omega)]
   | b :: t,hl'=>exact Qkl a b t w (by simp only[Wan] at hl';omega) (by omega) h3
  by_cases h4:a.toNat<240
  ·have sh:∀ t:U.Bs,t.length+1<3→Calls prog 181 #[.string ⟨(a :: t).toArray⟩] w fun e w'=>e=.returned (ZP (a :: t))∧w=w':=fun t ht=>by
    refine Qbt a t 3 ((a.toNat:Int) % 16) w ?_ (by omega) ht (by omega) ?_
    ·unfold szc;rw[if_neg (by omega),if_neg (by omega),if_neg (by omega),if_pos (by omega)];rfl
    ·simp only[U.next];rw[if_neg (by omega),if_neg (by omega),if_neg (by omega),if_pos (by omega)]
     match t,ht with
     | [],_=>rfl
     | [_],_=>rfl
   match t,hl' with
   | [],_=>exact sh [] (by simp)
   | [b],_=>exact sh [b] (by simp)
   | b :: c :: t,hl'=>exact Qkm a b c t w (by simp only[Wan] at hl';omega) (by omega) h4
  by_cases h5:a.toNat<245
  ·have sh:∀ t:U.Bs,t.length+1<4→Calls prog 181 #[.string ⟨(a :: t).toArray⟩] w fun e w'=>e=.returned (ZP (a :: t))∧w=w':=fun t ht=>by
    refine Qbt a t 4 ((a.toNat:Int) % 8) w ?_ (by omega) ht (by omega) ?_
    ·unfold szc;rw[if_neg (by omega),if_neg (by omega),if_neg (by omega),if_neg (by omega),if_pos (by omega)];rfl
    ·simp only[U.next];rw[if_neg (by omega),if_neg (by omega),if_neg (by omega),if_neg (by omega),if_pos (by omega)]
     match t,ht with
     | [],_=>rfl
     | [_],_=>rfl
     | [_,_],_=>rfl
   match t,hl' with
   | [],_=>exact sh [] (by simp)
   | [b],_=>exact sh [b] (by simp)
   | [b,c],_=>exact sh [b,c] (by simp)
   | b :: c :: d :: t,hl'=>exact Qkn a b c d t w (by simp only[Wan] at hl';omega) (by omega) h5
  ·exact Qeo a t w hl' (by omega) (.inr (by omega))
end Go.Proofs.YtckkgdmkfbkaoaaGreatDoor
