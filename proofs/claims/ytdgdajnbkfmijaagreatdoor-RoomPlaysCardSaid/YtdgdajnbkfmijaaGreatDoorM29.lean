/- Texts of the proof. -/
import Derived.Test.YtdgdajnbkfmijaaGreatDoorM19
import Derived.Test.YtdgdajnbkfmijaaGreatDoorM10
namespace Go.Proofs.YtdgdajnbkfmijaaGreatDoor
open Go.Proofs.Tryz
set_option maxRecDepth 100000
set_option maxHeartbeats 32000000
section
open Go.RowKit
abbrev Cn.cells (x:Cn):List Value:=[.int .i64 x.b,.int .i64 x.h,.int .i64 x.r,.int .i64 x.l]
def cnv (l:List Cn):List Value:=l.flatMap Cn.cells
theorem Qrd (a b:List Cn):cnv (a++b)=cnv a++cnv b:=by unfold cnv;rw[List.flatMap_append]
theorem Qre (x:Cn):cnv [x]=x.cells:=by simp[cnv]
theorem Qik (l:List Cn):(cnv l).length=l.length*4:=by
 unfold cnv
 induction l with
 | nil=>rfl
 | cons p l ih=>rw[List.flatMap_cons,Wad,ih];simp;omega
def Yn (rs:List Int):Nat→List Cn
 | 0=>[Cn.zero]
 | k+1=>Yn rs k++[cnt (rs.take (k+1))]
theorem Qdn (rs:List Int)(k:Nat):(Yn rs k).length=k+1:=by
 induction k with
 | zero=>rfl
 | succ k ih=>rw[Yn,Wad,ih];rfl
theorem Qrf (rs:List Int){k j:Nat}(h:j≤k):(Yn rs k)[j]?=some (cnt (rs.take j)):=by
 induction k with
 | zero =>
  obtain rfl:j=0:=by omega
  rfl
 | succ k ih =>
  rw[Yn]
  by_cases hj:j≤k
  ·rw[List.getElem?_append_left (by rw[Qdn];omega)];exact ih hj
  ·obtain rfl:j=k+1:=by omega
   rw[Way (by rw[Qdn];omega),Qdn,Nat.sub_self];rfl
theorem Qrg:El prog 265 63 4 32:=El.mk' underlying265 (by kernel_rfl) (by decide)
theorem Qrh {rs:List Int}(h:U.AllR rs)(k:Nat):U.Sp (U.encs (rs.take k)) (rs.take k) []:=⟨fun r hr=>h r (List.mem_of_mem_take hr),by rw[Wam],by rfl⟩
theorem Qri (rs:List Int)(k:Nat):(U.encs rs).take (U.off rs k)=U.encs (rs.take k):=by
 have e:U.encs rs=U.encs (rs.take k)++U.encs (rs.drop k):=by rw[← U.encs_append,Wbh]
 unfold U.off;rw[e];exact List.take_left
theorem Qrj {w:World}{x:Cn}:(w.alloc (.cells #[.int .i64 x.b,.int .i64 x.h,.int .i64 x.r,.int .i64 x.l] 63)).ownsRow w.heap.size 63 4 (.slice (some ⟨w.heap.size,0,none⟩) 1 1) 1 (cnv [x]) :=
 ⟨by rw[Qik];rfl,.inr ⟨w.heap.size,1,_,rfl,Wak _,Blk.new _ _ _,Wak _,by unfold maxLen;omega,rfl,by simp[cnv]⟩⟩
section
attribute [local go_sem] XV
theorem Qrk {rs:List Int}{s:U.Bs}{w:World}(hall:U.AllR rs)(hse:s=U.encs rs)(hs:s.length≤1000000) :
  Calls prog 156 #[.string ⟨s.toArray⟩] w fun e w'=>(∃ v,e=.returned v∧Sl w' 4 v (rs.length+1) (cnv (Yn rs rs.length)))∧Below w.heap.size w w':=by
 have HS:Hd (U.Sp s rs []):=⟨⟨hall,by rw[hse,Wam],by rfl⟩⟩;have HA:=Hm hall;have hlen:=HS.o.length;have hll:=U.len_le_off rs;have hrl:rs.length≤1000000:=by simp at hlen;omega
 have hol:U.off rs rs.length=s.length:=by simp at hlen;omega
 have HSE:=Hm hse;clear hse hlen hll;go_enter func156,ntmps156
 go_wp2_with fail;refine (XO HS.o _ (by omega)).mono ?_;rintro e w1 ⟨hb1,hok,_⟩;obtain⟨v,rfl,hsl⟩:=hok rfl;have HSL:=Hm hsl;have HB1:=Hm hb1;obtain⟨A,c,rfl,-⟩:=hsl;unfold QQ;clear hok hb1;go_wp2_with fail
 have HOWN:Hd (((w1.alloc (.cells #[.int .i64 0,.int .i64 (-1)] 31)).alloc (.cells #[.int .i64 0,.int .i64 0,.int .i64 0,.int .i64 0] 63)).ownsRow w1.heap.size 63 4 (.slice (some ⟨w1.heap.size+1,0,none⟩) 1 1) 1 (cnv (Yn rs 0))):=⟨by
  have:=Qrj (w:=w1.alloc (.cells #[.int .i64 0,.int .i64 (-1)] 31)) (x:=Cn.zero)
  rw[Waq] at this;exact Qrt this (by omega)⟩
 go_loopw [5,6,20] (fun out at_ i wr=>∃ k a:Nat,k≤rs.length∧i=.int .i64 k∧at_=.int .i64 a∧a=U.off rs k∧wr.ownsRow w1.heap.size 63 4 out (k+1) (cnv (Yn rs k))∧Below w1.heap.size w1 wr) (fun _ _ i _=>rs.length-(intOf i).toNat)
 case atStart=>exact⟨0,0,by omega,rfl,rfl,rfl,HOWN.o,Qa (Qa (Wac _ _) _) _⟩
 case round =>
  obtain⟨k,a,hk,rfl,rfl,ha,hown,hbel⟩:=hrel;have HB:=Hm hbel;have HOW:=Hm hown;obtain⟨Ao,co,rfl⟩:=Qg hown;have hsz:=hbel.size
  by_cases hkn:k<rs.length
  ·obtain⟨ad,c',u,hv,hlt,hu,hc⟩:=(HSL.o.below hbel).at_ hkn
   cases hv
   have hu2:u=.int .i32 rs[k]:=by
    unfold Qs at hu;rw[Wav,Waj hkn] at hu;simpa using hu.symm
   subst hu2;have HRR:=Hm (HA.o _ (Wau hkn));have hos:=U.off_succ hkn;have hol2:U.off rs (k+1)≤U.off rs rs.length:=U.off_le (by omega);have hel:=U.enc_length rs[k];have HSP:=Hm (Qrh HA.o (k+1));have HTK:Hd (s.take (a+(U.enc rs[k]).length)=U.encs (rs.take (k+1))):=⟨by rw[hel,ha,← hos,HSE.o,Qri]⟩;have HAK:Hd (a+(U.enc rs[k]).length=U.off rs (k+1)):=⟨by rw[hel,ha,← hos]⟩;have hlt2:a+(U.enc rs[k]).length≤s.length:=by omega
   have HTL:Hd ((U.encs (rs.take (k+1))).length≤1000000):=⟨by rw[← HTK.o,Wbb];omega⟩;generalize rs[k]=r at *;have HED:Hd (cnv (Yn rs (k+1))=cnv (Yn rs k)++(#[.int .i64 (cnt (rs.take (k+1))).b,.int .i64 (cnt (rs.take (k+1))).h,.int .i64 (cnt (rs.take (k+1))).r,.int .i64 (cnt (rs.take (k+1))).l]:Array Value).toList):=⟨by rw[Yn,Qrd,Qre]⟩;clear hown hbel hu ha hos hel;go_wp2_with fail;refine (YP r _ HRR.o).mono ?_;rintro e w2 ⟨rfl,hb2⟩;have HB2:=Hm (HB.o.trans (hb2.mono hsz));have HO2:=Hm (Qt HOW.o (Only.of_below (S:=fun _=>False) hb2) (fun _ _ h=>h));clear hb2;go_wp2_with fail;rw[HTK.o];refine (Qa3 HSP.o _ (by have:=HTL.o;omega)).mono ?_;rintro e w3 ⟨hb3,hok3,_⟩;obtain rfl:=hok3 rfl;have HB3:=Hm (HB2.o.trans (hb3.mono HB2.o.size));have HO3:=Hm (Qt HO2.o (Only.of_below (S:=fun _=>False) hb3) (fun _ _ h=>h));have hz3:=HB3.o.size;clear hb3 hok3;unfold QQ;generalize cnt (rs.take (k+1))=cc at *;go_wp2_with (at_builtin;refine Qx Qrg #[.int .i64 cc.b,.int .i64 cc.h,.int .i64 cc.r,.int .i64 cc.l] (by repeat (first | exact HO3.o | apply World.ownsRow.alloc)) rfl rfl rfl rfl (by simp) rfl (one4 rfl rfl rfl rfl) (by unfold maxLen;omega) (by omega) (by simp only[Waq];omega) ?_;intro v9 w9 hown9 hbel9 hgr9 hnew9;obtain⟨A9,k9,rfl⟩:=Qg hown9;have HO9:=Hm hown9;have HB9:=Hm hbel9;clear hown9 hbel9 hgr9 hnew9)
   exact⟨⟨k+1,a+(U.enc r).length,by omega,by go_num,by go_num,HAK.o,by rw[HED.o];exact HO9.o,(by repeat (first | exact HB3.o | apply Qa):Below w1.heap.size w1 _).trans HB9.o⟩,by simp only[intOf];omega⟩
  ·obtain rfl:k=rs.length:=by omega
   have HS9:=Hm (Sl.of_own hown);clear hown hbel ha;go_wp2_with fail;go_ret
   exact⟨⟨_,rfl,HS9.o⟩,Qb HB1.o HB.o⟩
end
end
section
open Go.RowKit
theorem QY {a b:List Int}(h:U.AllR (a++b)):U.AllR a∧U.AllR b:=⟨fun r hr=>h r (List.mem_append_left _ hr),fun r hr=>h r (List.mem_append_right _ hr)⟩
end
end Go.Proofs.YtdgdajnbkfmijaaGreatDoor
