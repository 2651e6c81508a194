/- Texts of the proof. -/
import Derived.Test.YtckkgdmkfbkaoaaGreatDoorM1
import Derived.Defers
import Derived.Laws.LoneSync
import Derived.RegionCalls
namespace Go.Proofs.YtckkgdmkfbkaoaaGreatDoor
open Go.Proofs.Tryz
set_option maxRecDepth 100000
set_option maxHeartbeats 32000000
set_option linter.all false
open Go.RowKit
theorem Qg9 (w:World):(callFunc 28 #[]).run prog w=.ok (.value (.tuple #[])) w:=run_call_mark0 func28 (by kernel_rfl) (by kernel_rfl) (by kernel_rfl) .disable (by kernel_rfl) w
theorem Qha (w:World):(callFunc 29 #[]).run prog w=.ok (.value (.tuple #[])) w:=run_call_mark0 func29 (by kernel_rfl) (by kernel_rfl) (by kernel_rfl) .enable (by kernel_rfl) w
theorem Qrv (a:Addr)(w:World):(callFunc 40 #[.pointer (some a)]).run prog w=.ok (.value (.tuple #[])) w:=run_call_marked func40 (by kernel_rfl) (by kernel_rfl) (by kernel_rfl) .acquire (by kernel_rfl) a w
theorem Qrw (a:Addr)(w:World):(callFunc 27 #[.pointer (some a)]).run prog w=.ok (.value (.tuple #[])) w:=run_call_marked func27 (by kernel_rfl) (by kernel_rfl) (by kernel_rfl) .releaseMerge (by kernel_rfl) a w
theorem Qrx (a:Addr)(x:Value)(u:FrameMode)(w:World)(hc:w.cell? a=some x)(hz:w.frozen? a=false) :
  CallsD prog 241 #[.pointer (some a),.bool true] u w fun e u' w'=>u'=u∧(e=.returned (.tuple #[])∧w'=w.drew.setCell a (.int .u32 1)):=by
 have hc':w.drew.cell? a=some x:=by go_simp
 have hz':w.drew.frozen? a=false:=by go_simp
 have hst:=run_call_store (P:=prog) func286 (by kernel_rfl) (by kernel_rfl) (by kernel_rfl) (by kernel_rfl) (k:=.u32) (y:=1) hc' hz'
 go_enter_d func241,ntmps241
 go_wp2
 go_region_calls
 all_goals (go_end0;exact⟨rfl,rfl⟩)
theorem unlock_deferred (a:Addr)(u:FrameMode)(w:World)(hc:w.cell? a=some (.int .i32 1))(hz:w.frozen? a=false) :
  CallsD prog 240 #[.pointer (some a)] u w fun e u' w'=>u'=u∧(e=.returned (.tuple #[])∧w'=w.setCell a (.int .i32 0)):=by
 have hd:=Qg9;have he:=Qha;have hr:=Qrw;have hadd:=run_call_add (P:=prog) func309 (by kernel_rfl) (by kernel_rfl) (by kernel_rfl) .i32 (by kernel_rfl) (y:=-1) (s:=0) hc hz (by simp[go_sem];rfl)
 have hcv:=run_convert_to_unsafe (P:=prog) (src:=430) (dst:=78) underlying430 underlying78 (by kernel_rfl) hc;go_enter_d func240,ntmps240
 go_wp2
 go_end0;go_wp2
 go_end0
 exact⟨rfl,rfl⟩
theorem lock_free (a:Addr)(w:World)(hc:w.cell? a=some (.int .i32 0))(hz:w.frozen? a=false) :
  Calls prog 239 #[.pointer (some a)] w fun e w'=>e=.returned (.tuple #[])∧w'=w.setCell a (.int .i32 1):=by
 have hd:=Qg9;have he:=Qha;have ha:=Qrv;have hcas:=run_call_cas_hit (P:=prog) func307 (by kernel_rfl) (by kernel_rfl) (by kernel_rfl) .i32 (by kernel_rfl) (y:=1) hc hz
 have hc':(w.setCell a (.int .i32 1)).cell? a=some (.int .i32 1):=World.cell?_setCell_same w a _ hc;have hcv:=run_convert_to_unsafe (P:=prog) (src:=430) (dst:=78) underlying430 underlying78 (by kernel_rfl) hc';go_enter func239,ntmps239
 go_wp2
 first | go_end0 | (simp only[Exit.inBlock,Exit.then];refine Waz (results_none rfl _ _ _) rfl ?_) | refine Waz (results_none rfl _ _ _) rfl ?_
 go_wp2
 go_end0
 exact⟨rfl,rfl⟩
def Qhb (b:Nat)(Q:World→Prop)(e:Ending)(w':World):Prop :=
 e=.returned (.tuple #[])∧∃ w2,Q w2∧(w2.cell? ⟨b,0,none⟩=some (.int .u32 0)∧w2.cell? ⟨b,1,none⟩=some (.int .i32 1))∧w'=(w2.drew.setCell ⟨b,0,none⟩ (.int .u32 1)).setCell ⟨b,1,none⟩ (.int .i32 0)
def Qc5 (b:Nat)(Q:World→Prop)(e:Ending)(w2:World):Prop :=
 e=.returned (.tuple #[])∧(w2.cell? ⟨b,0,none⟩=some (.int .u32 0)∧w2.cell? ⟨b,1,none⟩=some (.int .i32 1)∧w2.frozen? ⟨b,0,none⟩=false∧w2.frozen? ⟨b,1,none⟩=false)∧Q w2
section
variable {b:Nat}{Q:World→Prop}{w:World}
theorem Qry (h0:w.cell? ⟨b,0,none⟩=some (.int .u32 0))(h1:w.cell? ⟨b,1,none⟩=some (.int .i32 0))(f0:w.frozen? ⟨b,0,none⟩=false)(f1:w.frozen? ⟨b,1,none⟩=false)
  (hf:Calls prog 137 #[.pointer (some ⟨b,0,none⟩)] (w.setCell ⟨b,1,none⟩ (.int .i32 1)) (Qc5 b Q)) :
  Calls prog 187 #[.pointer (some ⟨b,0,none⟩),.func (.func 137) #[.pointer (some ⟨b,0,none⟩)] #[]] w (Qhb b Q):=by
 have hl:=run_call_load (P:=prog) func238 (by kernel_rfl) (by kernel_rfl) (by kernel_rfl) .u32 (by kernel_rfl) (w:=w.setCell ⟨b,1,none⟩ (.int .i32 1)) (a:=⟨b,0,none⟩) (x:=0) ((World.cell?_setCell_other _ ⟨b,1,none⟩ ⟨b,0,none⟩ _ (by simp)).trans h0)
 have hnot:∀ (x:Bool) (w:World),(Op.unary .not (.bool x)).run prog w=.ok (.bool (!x)) w:=fun _ _=>rfl
 have HF:=Hm hf;clear hf;go_enter_defers func187,ntmps187
 go_wp2_with (first
  | (go_at_call 239;refine (lock_free ⟨b,1,none⟩ _ (by go_simp) (by go_simp)).mono ?_;rintro e w' ⟨rfl,rfl⟩)
  | (go_at_call 137;refine HF.o.mono ?_;rintro e w2 ⟨rfl,⟨c0,c1,z0,z1⟩,hq⟩;have HQ:=Hm hq;clear hq)
  | (go_at_call 186;go_in))
 refine leaves_cons (f:=241) (args:=#[.pointer (some ⟨b,0,none⟩),.bool true]) (by simp) (by simp[go_sem]) ?_;refine (Qrx ⟨b,0,none⟩ (.int .u32 0) .returning _ c0 z0).mono ?_;rintro e u' w'' ⟨rfl,rfl,rfl⟩;refine leaves_cons (f:=240) (args:=#[.pointer (some ⟨b,1,none⟩)]) (by simp[settle]) (by simp[go_sem]) ?_;refine (unlock_deferred ⟨b,1,none⟩ _ _ ?_ (by simp[z1])).mono ?_
 ·exact (World.cell?_setCell_other _ ⟨b,0,none⟩ ⟨b,1,none⟩ _ (by simp)).trans c1
 rintro e u' w'' ⟨rfl,rfl,rfl⟩
 exact⟨_,results_none rfl _ _ _,rfl,_,HQ.o,⟨c0,c1⟩,rfl⟩
theorem Qrz (h0:w.cell? ⟨b,0,none⟩=some (.int .u32 0))(h1:w.cell? ⟨b,1,none⟩=some (.int .i32 0))(f0:w.frozen? ⟨b,0,none⟩=false)(f1:w.frozen? ⟨b,1,none⟩=false)
  (hf:Calls prog 137 #[.pointer (some ⟨b,0,none⟩)] (w.setCell ⟨b,1,none⟩ (.int .i32 1)) (Qc5 b Q)) :
  Calls prog 136 #[.pointer (some ⟨b,0,none⟩),.func (.func 137) #[.pointer (some ⟨b,0,none⟩)] #[]] w (Qhb b Q):=by
 have HS:=Hm (Qry h0 h1 f0 f1 hf);have hl:=run_call_load (P:=prog) func238 (by kernel_rfl) (by kernel_rfl) (by kernel_rfl) .u32 (by kernel_rfl) h0
 have hnot:∀ (x:Bool) (w:World),(Op.unary .not (.bool x)).run prog w=.ok (.bool (!x)) w:=fun _ _=>rfl
 clear hf h1 f1;go_enter func136,ntmps136
 go_wp2_with (first
  | (go_at_call 187;refine HS.o.mono ?_;rintro e w' ⟨rfl,hx⟩;have HX:=Hm hx;clear hx)
  | (go_at_call 186;go_in))
 go_end0
 exact⟨rfl,HX.o⟩
end
end Go.Proofs.YtckkgdmkfbkaoaaGreatDoor
