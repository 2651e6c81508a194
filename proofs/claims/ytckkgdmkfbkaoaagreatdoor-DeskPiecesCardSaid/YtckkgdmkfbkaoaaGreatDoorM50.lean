/- Texts of the proof. -/
import Derived.Test.YtckkgdmkfbkaoaaGreatDoorM36
import Derived.Test.YtckkgdmkfbkaoaaGreatDoorM48
namespace Go.Proofs.YtckkgdmkfbkaoaaGreatDoor
open Go.Proofs.Tryz
set_option maxRecDepth 100000
set_option maxHeartbeats 32000000
set_option linter.all false
open Go.RowKit
theorem Qlh (s:Bs):s.map (rpb 95 32 47 10)=s.map plB:=rfl
theorem Qli (s:Bs):s.map (rpb 32 95 10 47)=s.map tlB:=rfl
def JQ (t:Bs)(w:World)(e:Ending)(w':World):Prop:=e=.returned (.string ⟨t.toArray⟩)∧Below w.heap.size w w'
theorem Qew (w:World)(a b c d:UInt8):Sl (w.alloc (.cells #[.string ⟨#[a]⟩,.string ⟨#[b]⟩,.string ⟨#[c]⟩,.string ⟨#[d]⟩] 9)) 1 (.slice (some ⟨w.heap.size,0,none⟩) 4 4) 4 [.string ⟨#[a]⟩,.string ⟨#[b]⟩,.string ⟨#[c]⟩,.string ⟨#[d]⟩] :=
 Sl.of_blk (Blk.new w 9 #[.string ⟨#[a]⟩,.string ⟨#[b]⟩,.string ⟨#[c]⟩,.string ⟨#[d]⟩]) rfl (by unfold maxLen;omega)
theorem Ji {s:Bs}(hs:s.length≤1000000)(w:World):Calls prog 48 #[.string ⟨s.toArray⟩] w (JQ (Qj s) w):=by
 by_cases h:s=[45]
 ·subst h;go_enter func48,ntmps48
  go_wp2
  go_ret
  exact⟨rfl,Wac _ _⟩
 ·have hne:(s == [45])=false:=by simpa using h
  have HW:Hd (Qj s=s.map (rpb 95 32 47 10)):=⟨by unfold Qj;rw[if_neg h,Qlh]⟩;have HNR:=Hm (Qja (Qew w 95 32 47 10));have HS:=Hm hs;clear h hs;go_enter func48,ntmps48
  go_wp2_with (first
   | (go_at_call 86;refine HNR.o.mono ?_;rintro e w1 ⟨B,g,cap,rfl,h1⟩;have H1:=Hm h1;clear h1)
   | (go_at_call 87;refine (Qe9 H1.o H1.o.bel.size HS.o).mono ?_;rintro e w2 ⟨rfl,hb2⟩;have HB2:=Hm hb2;clear hb2))
  go_ret;rw[HW.o]
  exact⟨rfl,(Qb (Wac _ _) _).trans ((H1.o.bel.trans HB2.o).mono (by simp))⟩
theorem Qb0 {s:Bs}(hs:s.length≤1000000)(w:World):Calls prog 154 #[.string ⟨s.toArray⟩] w (JQ (Zx s) w):=by
 by_cases h:s=[]
 ·subst h;go_enter func154,ntmps154
  go_wp2
  go_ret
  exact⟨rfl,Wac _ _⟩
 ·have hne:s.isEmpty=false:=by simpa using h
  have HW:Hd (Zx s=s.map (rpb 32 95 10 47)):=⟨by unfold Zx;rw[if_neg h,Qli]⟩;have HNR:=Hm (Qja (Qew w 32 95 10 47));have HS:=Hm hs;clear hs;go_enter func154,ntmps154
  go_wp2_with (first
   | (go_at_call 86;refine HNR.o.mono ?_;rintro e w1 ⟨B,g,cap,rfl,h1⟩;have H1:=Hm h1;clear h1)
   | (go_at_call 87;refine (Qe9 H1.o H1.o.bel.size HS.o).mono ?_;rintro e w2 ⟨rfl,hb2⟩;have HB2:=Hm hb2;clear hb2))
  go_ret;rw[HW.o]
  exact⟨rfl,(Qb (Wac _ _) _).trans ((H1.o.bel.trans HB2.o).mono (by simp))⟩
end Go.Proofs.YtckkgdmkfbkaoaaGreatDoor
