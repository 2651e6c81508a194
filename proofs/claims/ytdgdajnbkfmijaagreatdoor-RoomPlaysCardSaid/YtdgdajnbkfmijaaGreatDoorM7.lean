/- Texts of the proof. -/
import Derived.Test.YtdgdajnbkfmijaaGreatDoorM6
import Derived.BigQuiet
import Derived.Deep.QuietTactic
namespace Go.Proofs.YtdgdajnbkfmijaaGreatDoor
open Go.Proofs.Tryz
set_option maxRecDepth 100000
set_option maxHeartbeats 32000000
section
open Go.RowKit
namespace U
def at_ (s:Bs)(j:Nat):UInt8:=s.getD j 0
def cand (s:Bs)(n:Nat):Int :=
 match n with
 | 1=>(at_ s 0).toNat
 | 2=>((at_ s 0).toNat:Int) % 32*64+((at_ s 1).toNat:Int) % 64
 | 3=>((at_ s 0).toNat:Int) % 16*4096+((at_ s 1).toNat:Int) % 64*64+((at_ s 2).toNat:Int) % 64
 | _=>((at_ s 0).toNat:Int) % 8*262144+((at_ s 1).toNat:Int) % 64*4096+((at_ s 2).toNat:Int) % 64*64+((at_ s 3).toNat:Int) % 64
theorem cand_hit {s:Bs}{r:Int}{n:Nat}(h:next s=(r,n))(hn:n≠0):cand s n=r:=by
 rcases s with _ | ⟨a,t⟩
 ·simp only[next,Prod.mk.injEq] at h;exact absurd h.2.symm hn
 ·simp only[next] at h
  repeat' split at h
  all_goals simp only[Prod.mk.injEq] at h
  all_goals obtain⟨rfl,rfl⟩:=h
  all_goals first | exact absurd rfl hn | (simp[cand,at_];done) | (simp[cand,at_,r2];done) | (simp[cand,at_,r3];omega) | (simp[cand,at_,r4];omega)
theorem cand_take {s:Bs}{n:Nat}(hr:right (cand s n)=true)(he:enc (cand s n)=s.take n)(hn:n≤s.length):next s=(cand s n,n):=by
 have h1:wid (cand s n)=n:=by
  have:=congrArg List.length he
  rw[enc_length,Wbb] at this;omega
 have h2:=Qka hr (s.drop n);rw[he,Wbh,h1] at h2;exact h2
theorem cand_lo (s:Bs)(n:Nat):0≤cand s n:=by unfold cand;split<;>omega
theorem cand_hi (s:Bs)(n:Nat):cand s n≤2097151:=by
 have:=(at_ s 0).toNat_lt
 unfold cand;split<;>omega
end U
theorem XV {s:U.Bs}{k:Nat}(hk:k≤s.length):(ByteArray.mk s.toArray).extract 0 k=⟨(s.take k).toArray⟩:=by
 simp[ByteArray.extract,ByteArray.copySlice,hk]
theorem getD_at {s:U.Bs}{j:Nat}(h:j<s.length)(hh):(ByteArray.mk s.toArray)[j]'hh=U.at_ s j:=by
 have:(ByteArray.mk s.toArray)[j]'hh=s[j]:=rfl
 rw[this];simp[h,U.at_]
theorem Qas (r:Int)(w:World)(h1:-2147483648≤r)(h2:r≤2147483647)(h:U.right r=false):Calls prog 161 #[.int .i32 r] w fun e w'=>e=.returned (.bool false)∧∃ n,w'=w.drewN n :=
 (YO r w h1 h2).mono fun e w' ⟨he,hw⟩=>by subst hw;rw[h] at he;exact⟨he,0,rfl⟩
attribute [local go_sem ↓] Go.wp_at_zero Go.wp_at_succ
theorem Qqg {s:U.Bs}(hs:s.length≤140737488351232)(w:World) :
  Calls prog 136 #[.string ⟨s.toArray⟩] w fun e w'=>e=.returned (.tuple #[.int .i32 (U.next s).1,.int .i64 (U.next s).2])∧Below w.heap.size w w':=by
 go_enter func136,ntmps136
 go_wp2_with fail
 go_loopw [4] (fun i wr=>∃ k:Nat,1≤k∧k≤5∧i=.int .i64 k∧((U.next s).2=0∨k≤(U.next s).2)∧Below w.heap.size w wr) (fun i _=>5-(intOf i).toNat)
 case atStart=>exact⟨1,by omega,by omega,rfl,by omega,(by repeat (first | exact Wac _ _ | exact Qe (by assumption) | apply Qe | apply Qh | apply Qa | assumption))⟩
 case round =>
  obtain⟨k,h1,h5,rfl,hnx,hbel⟩:=hrel;have HB:=Hm hbel;have HNX:=Hm hnx;clear hnx
  by_cases hk:k≤4∧k≤s.length
  ·obtain⟨hk4,hkl⟩:=hk;obtain rfl | rfl | rfl | rfl:k=1∨k=2∨k=3∨k=4:=by omega
   ·have e0:=fun hh=>getD_at (s:=s) (j:=0) (by omega) hh
    have b0:(U.at_ s 0).toNat<256:=(U.at_ s 0).toNat_lt;have ht:=XV hkl;have hc:((U.at_ s 0).toNat:Int)=U.cand s 1:=rfl;have HC:=Hm hc;clear hc;go_wp2_with fail;rw[HC.o];have hlo:=U.cand_lo s 1;have hhi:=U.cand_hi s 1;have hct:=U.cand_take (s:=s) (n:=1);have hch:=U.cand_hit (s:=s) (r:=(U.next s).1) (n:=1);generalize U.cand s 1=c at *;have HCT:=Hm hct;have HCH:=Hm hch;clear e0 b0;clear hct hch HC
    by_cases hr:U.right c=true
    ·by_cases he:U.enc c=s.take 1
     ·have HR:=Hm hr;have HE:=Hm he;have hq:(U.enc c == s.take 1)=true:=by rw[he];exact beq_self_eq_true _
      clear hr he
      go_region_held3 (fun w'=>Below wr.heap.size wr w'∧wr.heap.size≤w'.heap.size∧∀ b o,b<wr.heap.size→w'.cell? ⟨b,o,none⟩=wr.cell? ⟨b,o,none⟩)
       (first | exact YX rfl | exact YY (by assumption) (by assumption) | assumption)
       (first | (go_at_call 161;refine (YO c _ (by omega) (by omega)).mono ?_;rw[HR.o];rintro e w' ⟨rfl,rfl⟩) | (go_at_call 162;refine (YP c _ HR.o).mono ?_;rintro e w' ⟨rfl,hb'⟩))
      have HW:=Hm (Qb HB.o (by assumption:Below wr.heap.size wr w'∧_).1);go_wp2_with fail;refine Waz (v:=.tuple #[.int .i32 c,.int .i64 1]) (by simp[results,results136,go_sem]) rfl ?_;rw[HCT.o HR.o HE.o (by omega)]
      exact⟨rfl,HW.o⟩
     ·have HR:=Hm hr;have hq:(U.enc c == s.take 1)=false:=by rw[Waf];exact he
      have HE:=Hm he;clear hr he
      go_region_held3 (fun w'=>Below wr.heap.size wr w'∧wr.heap.size≤w'.heap.size∧∀ b o,b<wr.heap.size→w'.cell? ⟨b,o,none⟩=wr.cell? ⟨b,o,none⟩)
       (first | exact YX rfl | exact YY (by assumption) (by assumption) | assumption)
       (first | (go_at_call 161;refine (YO c _ (by omega) (by omega)).mono ?_;rw[HR.o];rintro e w' ⟨rfl,rfl⟩) | (go_at_call 162;refine (YP c _ HR.o).mono ?_;rintro e w' ⟨rfl,hb'⟩))
      have HW:=Hm (Qb HB.o (by assumption:Below wr.heap.size wr w'∧_).1);go_wp2_with fail;refine⟨⟨2,by omega,by omega,rfl,?_,HW.o⟩,by simp[intOf]⟩
      have:=HNX.o
      by_cases h2:(U.next s).2=1
      ·exfalso
       have h3:=HCH.o (Prod.ext rfl h2) (by omega);have h4:=U.next_pos s (by omega);rw[← h3,h2] at h4;exact HE.o (by rw[h4.2.2,List.take_left' (by rw[U.enc_length];exact h4.2.1.symm)])
      ·omega
    ·have hrf:U.right c=false:=by simpa using hr
     have HR:=Hm hrf;clear hr hrf;go_quiet (first | (go_at_call 161;exact Calls.quiet_of (Qas c _ (by omega) (by omega) HR.o)))
     go_wp2_with fail;refine⟨⟨2,by omega,by omega,rfl,?_,(by apply Qh;exact HB.o)⟩,by simp[intOf]⟩
     have:=HNX.o
     by_cases h2:(U.next s).2=1
     ·exfalso
      have h3:=HCH.o (Prod.ext rfl h2) (by omega);have h4:=U.next_pos s (by omega);rw[← h3,HR.o] at h4;exact absurd h4.1 (by simp)
     ·omega
   ·have e0:=fun hh=>getD_at (s:=s) (j:=0) (by omega) hh
    have b0:(U.at_ s 0).toNat<256:=(U.at_ s 0).toNat_lt;have e1:=fun hh=>getD_at (s:=s) (j:=1) (by omega) hh
    have b1:(U.at_ s 1).toNat<256:=(U.at_ s 1).toNat_lt;have ht:=XV hkl;have hc:((U.at_ s 0).toNat:Int) % 32*64+((U.at_ s 1).toNat:Int) % 64=U.cand s 2:=rfl;have HC:=Hm hc;clear hc;go_wp2_with fail;go_quiet (fail)
    go_wp2_with fail;have hbq:Below w.heap.size w (wr.drewN nq):=by apply Qh;exact HB.o
    clear HB hbel;generalize wr.drewN nq=wq at *;have HB:=Hm hbq;clear hbq;rw[HC.o];have hlo:=U.cand_lo s 2;have hhi:=U.cand_hi s 2;have hct:=U.cand_take (s:=s) (n:=2);have hch:=U.cand_hit (s:=s) (r:=(U.next s).1) (n:=2);generalize U.cand s 2=c at *;have HCT:=Hm hct;have HCH:=Hm hch;clear e0 b0;clear e1 b1;clear hct hch HC
    by_cases hr:U.right c=true
    ·by_cases he:U.enc c=s.take 2
     ·have HR:=Hm hr;have HE:=Hm he;have hq:(U.enc c == s.take 2)=true:=by rw[he];exact beq_self_eq_true _
      clear hr he
      go_region_held3 (fun w'=>Below wq.heap.size wq w'∧wq.heap.size≤w'.heap.size∧∀ b o,b<wq.heap.size→w'.cell? ⟨b,o,none⟩=wq.cell? ⟨b,o,none⟩)
       (first | exact YX rfl | exact YY (by assumption) (by assumption) | assumption)
       (first | (go_at_call 161;refine (YO c _ (by omega) (by omega)).mono ?_;rw[HR.o];rintro e w' ⟨rfl,rfl⟩) | (go_at_call 162;refine (YP c _ HR.o).mono ?_;rintro e w' ⟨rfl,hb'⟩))
      have HW:=Hm (Qb HB.o (by assumption:Below wq.heap.size wq w'∧_).1);go_wp2_with fail;refine Waz (v:=.tuple #[.int .i32 c,.int .i64 2]) (by simp[results,results136,go_sem]) rfl ?_;rw[HCT.o HR.o HE.o (by omega)]
      exact⟨rfl,HW.o⟩
     ·have HR:=Hm hr;have hq:(U.enc c == s.take 2)=false:=by rw[Waf];exact he
      have HE:=Hm he;clear hr he
      go_region_held3 (fun w'=>Below wq.heap.size wq w'∧wq.heap.size≤w'.heap.size∧∀ b o,b<wq.heap.size→w'.cell? ⟨b,o,none⟩=wq.cell? ⟨b,o,none⟩)
       (first | exact YX rfl | exact YY (by assumption) (by assumption) | assumption)
       (first | (go_at_call 161;refine (YO c _ (by omega) (by omega)).mono ?_;rw[HR.o];rintro e w' ⟨rfl,rfl⟩) | (go_at_call 162;refine (YP c _ HR.o).mono ?_;rintro e w' ⟨rfl,hb'⟩))
      have HW:=Hm (Qb HB.o (by assumption:Below wq.heap.size wq w'∧_).1);go_wp2_with fail;refine⟨⟨3,by omega,by omega,rfl,?_,HW.o⟩,by simp[intOf]⟩
      have:=HNX.o
      by_cases h2:(U.next s).2=2
      ·exfalso
       have h3:=HCH.o (Prod.ext rfl h2) (by omega);have h4:=U.next_pos s (by omega);rw[← h3,h2] at h4;exact HE.o (by rw[h4.2.2,List.take_left' (by rw[U.enc_length];exact h4.2.1.symm)])
      ·omega
    ·have hrf:U.right c=false:=by simpa using hr
     have HR:=Hm hrf;clear hr hrf;go_quiet (first | (go_at_call 161;exact Calls.quiet_of (Qas c _ (by omega) (by omega) HR.o)))
     go_wp2_with fail;refine⟨⟨3,by omega,by omega,rfl,?_,(by apply Qh;exact HB.o)⟩,by simp[intOf]⟩
     have:=HNX.o
     by_cases h2:(U.next s).2=2
     ·exfalso
      have h3:=HCH.o (Prod.ext rfl h2) (by omega);have h4:=U.next_pos s (by omega);rw[← h3,HR.o] at h4;exact absurd h4.1 (by simp)
     ·omega
   ·have e0:=fun hh=>getD_at (s:=s) (j:=0) (by omega) hh
    have b0:(U.at_ s 0).toNat<256:=(U.at_ s 0).toNat_lt;have e1:=fun hh=>getD_at (s:=s) (j:=1) (by omega) hh
    have b1:(U.at_ s 1).toNat<256:=(U.at_ s 1).toNat_lt;have e2:=fun hh=>getD_at (s:=s) (j:=2) (by omega) hh
    have b2:(U.at_ s 2).toNat<256:=(U.at_ s 2).toNat_lt;have ht:=XV hkl;have hc:((U.at_ s 0).toNat:Int) % 16*4096+((U.at_ s 1).toNat:Int) % 64*64+((U.at_ s 2).toNat:Int) % 64=U.cand s 3:=rfl;have HC:=Hm hc;clear hc;go_wp2_with fail;go_quiet (fail)
    go_wp2_with fail;have hbq:Below w.heap.size w (wr.drewN nq):=by apply Qh;exact HB.o
    clear HB hbel;generalize wr.drewN nq=wq at *;have HB:=Hm hbq;clear hbq;rw[HC.o];have hlo:=U.cand_lo s 3;have hhi:=U.cand_hi s 3;have hct:=U.cand_take (s:=s) (n:=3);have hch:=U.cand_hit (s:=s) (r:=(U.next s).1) (n:=3);generalize U.cand s 3=c at *;have HCT:=Hm hct;have HCH:=Hm hch;clear e0 b0;clear e1 b1;clear e2 b2;clear hct hch HC
    by_cases hr:U.right c=true
    ·by_cases he:U.enc c=s.take 3
     ·have HR:=Hm hr;have HE:=Hm he;have hq:(U.enc c == s.take 3)=true:=by rw[he];exact beq_self_eq_true _
      clear hr he
      go_region_held3 (fun w'=>Below wq.heap.size wq w'∧wq.heap.size≤w'.heap.size∧∀ b o,b<wq.heap.size→w'.cell? ⟨b,o,none⟩=wq.cell? ⟨b,o,none⟩)
       (first | exact YX rfl | exact YY (by assumption) (by assumption) | assumption)
       (first | (go_at_call 161;refine (YO c _ (by omega) (by omega)).mono ?_;rw[HR.o];rintro e w' ⟨rfl,rfl⟩) | (go_at_call 162;refine (YP c _ HR.o).mono ?_;rintro e w' ⟨rfl,hb'⟩))
      have HW:=Hm (Qb HB.o (by assumption:Below wq.heap.size wq w'∧_).1);go_wp2_with fail;refine Waz (v:=.tuple #[.int .i32 c,.int .i64 3]) (by simp[results,results136,go_sem]) rfl ?_;rw[HCT.o HR.o HE.o (by omega)]
      exact⟨rfl,HW.o⟩
     ·have HR:=Hm hr;have hq:(U.enc c == s.take 3)=false:=by rw[Waf];exact he
      have HE:=Hm he;clear hr he
      go_region_held3 (fun w'=>Below wq.heap.size wq w'∧wq.heap.size≤w'.heap.size∧∀ b o,b<wq.heap.size→w'.cell? ⟨b,o,none⟩=wq.cell? ⟨b,o,none⟩)
       (first | exact YX rfl | exact YY (by assumption) (by assumption) | assumption)
       (first | (go_at_call 161;refine (YO c _ (by omega) (by omega)).mono ?_;rw[HR.o];rintro e w' ⟨rfl,rfl⟩) | (go_at_call 162;refine (YP c _ HR.o).mono ?_;rintro e w' ⟨rfl,hb'⟩))
      have HW:=Hm (Qb HB.o (by assumption:Below wq.heap.size wq w'∧_).1);go_wp2_with fail;refine⟨⟨4,by omega,by omega,rfl,?_,HW.o⟩,by simp[intOf]⟩
      have:=HNX.o
      by_cases h2:(U.next s).2=3
      ·exfalso
       have h3:=HCH.o (Prod.ext rfl h2) (by omega);have h4:=U.next_pos s (by omega);rw[← h3,h2] at h4;exact HE.o (by rw[h4.2.2,List.take_left' (by rw[U.enc_length];exact h4.2.1.symm)])
      ·omega
    ·have hrf:U.right c=false:=by simpa using hr
     have HR:=Hm hrf;clear hr hrf;go_quiet (first | (go_at_call 161;exact Calls.quiet_of (Qas c _ (by omega) (by omega) HR.o)))
     go_wp2_with fail;refine⟨⟨4,by omega,by omega,rfl,?_,(by apply Qh;exact HB.o)⟩,by simp[intOf]⟩
     have:=HNX.o
     by_cases h2:(U.next s).2=3
     ·exfalso
      have h3:=HCH.o (Prod.ext rfl h2) (by omega);have h4:=U.next_pos s (by omega);rw[← h3,HR.o] at h4;exact absurd h4.1 (by simp)
     ·omega
   ·have e0:=fun hh=>getD_at (s:=s) (j:=0) (by omega) hh
    have b0:(U.at_ s 0).toNat<256:=(U.at_ s 0).toNat_lt;have e1:=fun hh=>getD_at (s:=s) (j:=1) (by omega) hh
    have b1:(U.at_ s 1).toNat<256:=(U.at_ s 1).toNat_lt;have e2:=fun hh=>getD_at (s:=s) (j:=2) (by omega) hh
    have b2:(U.at_ s 2).toNat<256:=(U.at_ s 2).toNat_lt;have e3:=fun hh=>getD_at (s:=s) (j:=3) (by omega) hh
    have b3:(U.at_ s 3).toNat<256:=(U.at_ s 3).toNat_lt;have ht:=XV hkl;have hc:((U.at_ s 0).toNat:Int) % 8*262144+((U.at_ s 1).toNat:Int) % 64*4096+((U.at_ s 2).toNat:Int) % 64*64+((U.at_ s 3).toNat:Int) % 64=U.cand s 4:=rfl;have HC:=Hm hc;clear hc;go_wp2_with fail;go_quiet (fail)
    go_wp2_with fail;have hbq:Below w.heap.size w (wr.drewN nq):=by apply Qh;exact HB.o
    clear HB hbel;generalize wr.drewN nq=wq at *;have HB:=Hm hbq;clear hbq;rw[HC.o];have hlo:=U.cand_lo s 4;have hhi:=U.cand_hi s 4;have hct:=U.cand_take (s:=s) (n:=4);have hch:=U.cand_hit (s:=s) (r:=(U.next s).1) (n:=4);generalize U.cand s 4=c at *;have HCT:=Hm hct;have HCH:=Hm hch;clear e0 b0;clear e1 b1;clear e2 b2;clear e3 b3;clear hct hch HC
    by_cases hr:U.right c=true
    ·by_cases he:U.enc c=s.take 4
     ·have HR:=Hm hr;have HE:=Hm he;have hq:(U.enc c == s.take 4)=true:=by rw[he];exact beq_self_eq_true _
      clear hr he
      go_region_held3 (fun w'=>Below wq.heap.size wq w'∧wq.heap.size≤w'.heap.size∧∀ b o,b<wq.heap.size→w'.cell? ⟨b,o,none⟩=wq.cell? ⟨b,o,none⟩)
       (first | exact YX rfl | exact YY (by assumption) (by assumption) | assumption)
       (first | (go_at_call 161;refine (YO c _ (by omega) (by omega)).mono ?_;rw[HR.o];rintro e w' ⟨rfl,rfl⟩) | (go_at_call 162;refine (YP c _ HR.o).mono ?_;rintro e w' ⟨rfl,hb'⟩))
      have HW:=Hm (Qb HB.o (by assumption:Below wq.heap.size wq w'∧_).1);go_wp2_with fail;refine Waz (v:=.tuple #[.int .i32 c,.int .i64 4]) (by simp[results,results136,go_sem]) rfl ?_;rw[HCT.o HR.o HE.o (by omega)]
      exact⟨rfl,HW.o⟩
     ·have HR:=Hm hr;have hq:(U.enc c == s.take 4)=false:=by rw[Waf];exact he
      have HE:=Hm he;clear hr he
      go_region_held3 (fun w'=>Below wq.heap.size wq w'∧wq.heap.size≤w'.heap.size∧∀ b o,b<wq.heap.size→w'.cell? ⟨b,o,none⟩=wq.cell? ⟨b,o,none⟩)
       (first | exact YX rfl | exact YY (by assumption) (by assumption) | assumption)
       (first | (go_at_call 161;refine (YO c _ (by omega) (by omega)).mono ?_;rw[HR.o];rintro e w' ⟨rfl,rfl⟩) | (go_at_call 162;refine (YP c _ HR.o).mono ?_;rintro e w' ⟨rfl,hb'⟩))
      have HW:=Hm (Qb HB.o (by assumption:Below wq.heap.size wq w'∧_).1);go_wp2_with fail;refine⟨⟨5,by omega,by omega,rfl,?_,HW.o⟩,by simp[intOf]⟩
      have:=HNX.o
      by_cases h2:(U.next s).2=4
      ·exfalso
       have h3:=HCH.o (Prod.ext rfl h2) (by omega);have h4:=U.next_pos s (by omega);rw[← h3,h2] at h4;exact HE.o (by rw[h4.2.2,List.take_left' (by rw[U.enc_length];exact h4.2.1.symm)])
      ·omega
    ·have hrf:U.right c=false:=by simpa using hr
     have HR:=Hm hrf;clear hr hrf;go_quiet (first | (go_at_call 161;exact Calls.quiet_of (Qas c _ (by omega) (by omega) HR.o)))
     go_wp2_with fail;refine⟨⟨5,by omega,by omega,rfl,?_,(by apply Qh;exact HB.o)⟩,by simp[intOf]⟩
     have:=HNX.o
     by_cases h2:(U.next s).2=4
     ·exfalso
      have h3:=HCH.o (Prod.ext rfl h2) (by omega);have h4:=U.next_pos s (by omega);rw[← h3,HR.o] at h4;exact absurd h4.1 (by simp)
     ·omega
  ·have hnx:U.next s=(0,0):=by
    have:=HNX.o
    have h2:=U.next_le s;refine U.next_zero ?_
    by_cases h0:(U.next s).2=0
    ·exact h0
    ·exfalso
     have h4:=U.next_pos s h0;have h6:=U.wid_le (U.next s).1;omega
   have HNZ:=Hm hnx;clear hnx
   by_cases hk4:k≤4
   ·have hkl:s.length<k:=by omega
    clear hk;go_wp2_with fail;refine Waz (v:=.tuple #[.int .i32 0,.int .i64 0]) (by simp[results,results136,go_sem]) rfl ?_;rw[HNZ.o]
    exact⟨rfl,HB.o⟩
   ·obtain rfl:k=5:=by omega
    clear hk;go_wp2_with fail;refine Waz (v:=.tuple #[.int .i32 0,.int .i64 0]) (by simp[results,results136,go_sem]) rfl ?_;rw[HNZ.o]
    exact⟨rfl,HB.o⟩
end
section
open Go.RowKit
def edg (s:U.Bs)(a:Nat):Bool:=decide (a=s.length) || !(U.cont (U.at_ s a))
theorem Qjx (s:U.Bs):edg s s.length=true:=by simp[edg]
def Qd6 (c:UInt8):Prop:=c.toNat<128∨192≤c.toNat
theorem JI (s:U.Bs)(a:Nat)(w:World)(h:a≤s.length) :
  Calls prog 126 #[.string ⟨s.toArray⟩,.int .i64 a] w fun e w'=>e=.returned (.bool (edg s a))∧w'=w:=by
 by_cases ha:a=s.length
 ·subst ha;rw[Qjx];have hb:((s.length:Int) == s.length)=true:=by rw[beq_iff_eq]
  go_enter func126,ntmps126
  go_wp2_with fail;go_ret
  exact⟨rfl,rfl⟩
 ·have hb:((a:Int) == s.length)=false:=by rw[Waf];omega
  have hl:a<s.length:=by omega
  have e0:=fun hh=>getD_at (s:=s) (j:=a) hl hh
  have hcc:=@U.cont_iff (U.at_ s a)
  by_cases hc:U.cont (U.at_ s a)=true
  ·have hE:edg s a=false:=by simp[edg,ha,hc]
   rw[hE];obtain⟨h1,h2⟩:=hcc.1 hc;clear hE hc hcc;generalize U.at_ s a=c at *;have HV:Hd (decide (192≤(c.toNat:Int))=false):=⟨by simp;omega⟩;have h1':¬ ((c.toNat:Int)<128):=by omega
   clear h1 h2;go_enter func126,ntmps126
   go_wp2_with fail;go_ret;refine⟨?_,rfl⟩;rw[← HV.o]
   rfl
  ·have hE:edg s a=true:=by simp[edg,hc]
   rw[hE]
   have h1:Qd6 (U.at_ s a):=by
    unfold Qd6;rcases Nat.lt_or_ge (U.at_ s a).toNat 128 with h | h
    ·exact .inl h
    ·rcases Nat.lt_or_ge (U.at_ s a).toNat 192 with h' | h'
     ·exact absurd (hcc.2 ⟨h,h'⟩) hc
     ·exact .inr h'
   clear hE hc hcc;generalize U.at_ s a=c at *;unfold Qd6 at h1
   by_cases h2:(c.toNat:Int)<128
   ·clear h1;go_enter func126,ntmps126
    go_wp2_with fail;go_ret
    exact⟨rfl,rfl⟩
   ·have HV:Hd (decide (192≤(c.toNat:Int))=true):=⟨by simp;omega⟩;clear h1;go_enter func126,ntmps126
    go_wp2_with fail;go_ret;refine⟨?_,rfl⟩;rw[← HV.o]
    rfl
end
end Go.Proofs.YtdgdajnbkfmijaaGreatDoor
