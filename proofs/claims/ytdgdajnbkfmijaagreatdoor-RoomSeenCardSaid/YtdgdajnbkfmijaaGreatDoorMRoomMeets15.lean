/- Several texts of the proof, one behind the other: RefF, EdgR. -/
import Derived.Test.YtdgdajnbkfmijaaGreatDoorMRoomMeets6
import Derived.Test.YtdgdajnbkfmijaaGreatDoorMRoomMeets1
import Derived.Deep.RegionHeld3
import Derived.BigQuiet
import Derived.Deep.QuietTactic
import Derived.Deep.DrawnRows
/- The reference's first. -/
namespace Go.Proofs.YtdgdajnbkfmijaaGreatDoor
open Go.RowKit
set_option maxRecDepth 100000
namespace U
def at_ (s : Bs) (j : Nat) : UInt8 := s.getD j 0
end U
theorem ext_take {s : U.Bs} {k : Nat} (hk : k ≤ s.length) : (ByteArray.mk s.toArray).extract 0 k = ⟨(s.take k).toArray⟩ := by
  simp [ByteArray.extract, ByteArray.copySlice, hk]
theorem getD_at {s : U.Bs} {j : Nat} (h : j < s.length) (hh) : (ByteArray.mk s.toArray)[j]'hh = U.at_ s j := by
  have : (ByteArray.mk s.toArray)[j]'hh = s[j] := rfl
  rw [this]; simp [h, U.at_]
attribute [local go_sem ↓] Go.wp_at_zero Go.wp_at_succ
end Go.Proofs.YtdgdajnbkfmijaaGreatDoor
/- The reference's edge. -/
namespace Go.Proofs.YtdgdajnbkfmijaaGreatDoor
open Go.RowKit
set_option maxRecDepth 100000
/-- A rune begins at a place, or the text ends there. -/
def edg (s : U.Bs) (a : Nat) : Bool := decide (a = s.length) || !(U.cont (U.at_ s a))
theorem edg_end (s : U.Bs) : edg s s.length = true := by simp [edg]
end Go.Proofs.YtdgdajnbkfmijaaGreatDoor
