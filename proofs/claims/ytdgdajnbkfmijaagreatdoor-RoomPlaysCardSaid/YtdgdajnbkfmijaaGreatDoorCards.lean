/-
  DERIVED. GIVEN WITH THE SEED: THE CARDS: each row of YtdgdajnbkfmijaaGreatDoorRows.lean that lists a variable, with what it lists TIED to the program's text (the seventh form; the later family's looks); each row that meets fmt, with fmt's text TOLD by the authors' own Lean function (tested against real Go, not proved from fmt's source: count such statements apart). THE CARD IS WHAT COUNTS. Prove the row's statement (the work); the ties are given (YtdgdajnbkfmijaaGreatDoorTie.lean); close each card by the builder's one call (the guide's Derived/Test/ToyasCard.lean, 'card_holds'). Laid BY PROGRAM, IN A SANDBOX (cutbox-door.mjs). By AI agents, Wed Nov 11 2026. No macro, syntax, notation, axiom, sorry.
-/
import Derived.Test.YtdgdajnbkfmijaaGreatDoorRows
import GoSem.ClaimSeven
namespace Go.Proofs.YtdgdajnbkfmijaaGreatDoor
namespace Rows

/-- THE TIED CARD OF 'rosettalaw.ServerPlays'. -/
def serverPlaysCard : Claim7 := { stood := { row := serverPlaysRow, standIns := [], harness := (true, "5adec8c05d83520dd34b84957696734496ab3596274096e87fa1a28cbff8369e"), looks := true }, kinds := [], alts := [], laidByText := true, laidKinds := [.handle], laidTests := true, laidLooks := .later }
def ServerPlaysCardSaid : Prop := Claim7.holds Tryz.pinned (.plain (OpenSpec.ofChange serverPlaysSpec)) serverPlaysCard

/-- THE TIED CARD OF 'rosettakeep.RoomSeen'. -/
def roomSeenCard : Claim7 := { stood := { row := roomSeenRow, standIns := [], harness := (true, "5adec8c05d83520dd34b84957696734496ab3596274096e87fa1a28cbff8369e"), looks := true }, kinds := [], alts := [], laidByText := true, laidKinds := [.handle], laidTests := true, laidLooks := .later }
def RoomSeenCardSaid : Prop := Claim7.holds Tryz.pinned (.plain (OpenSpec.ofChange roomSeenSpec)) roomSeenCard

/-- THE TIED CARD OF 'rosettakeep.RoomMeets'. -/
def roomMeetsCard : Claim7 := { stood := { row := roomMeetsRow, standIns := [], harness := (true, "5adec8c05d83520dd34b84957696734496ab3596274096e87fa1a28cbff8369e"), looks := true }, kinds := [], alts := [], laidByText := true, laidKinds := [.handle], laidTests := true, laidLooks := .later }
def RoomMeetsCardSaid : Prop := Claim7.holds Tryz.pinned (.plain (OpenSpec.ofChange roomMeetsSpec)) roomMeetsCard

/-- THE TIED CARD OF 'rosettalaw.RoomPlays'. -/
def roomPlaysCard : Claim7 := { stood := { row := roomPlaysRow, standIns := [], harness := (true, "5adec8c05d83520dd34b84957696734496ab3596274096e87fa1a28cbff8369e"), looks := true }, kinds := [], alts := [], laidByText := true, laidKinds := [.handle], laidTests := true, laidLooks := .later }
def RoomPlaysCardSaid : Prop := Claim7.holds Tryz.pinned (.plain (OpenSpec.ofChange roomPlaysSpec)) roomPlaysCard

/-- THE SECOND FORM's CARD OF 'rosettalaw.ServerPlays'. -/
def serverPlaysUptoCard : Claim7 := { stood := { row := serverPlaysUptoRow, standIns := [], harness := (true, "5adec8c05d83520dd34b84957696734496ab3596274096e87fa1a28cbff8369e"), looks := true }, kinds := [], alts := [], laidByText := true, laidKinds := [.handle], laidTests := true, laidLooks := .later }
def ServerPlaysUptoCardSaid : Prop := Claim7.holds Tryz.pinned (.plain (OpenSpec.upto serverPlaysSpec)) serverPlaysUptoCard

/-- THE SECOND FORM's CARD OF 'rosettakeep.RoomSeen'. -/
def roomSeenUptoCard : Claim7 := { stood := { row := roomSeenUptoRow, standIns := [], harness := (true, "5adec8c05d83520dd34b84957696734496ab3596274096e87fa1a28cbff8369e"), looks := true }, kinds := [], alts := [], laidByText := true, laidKinds := [.handle], laidTests := true, laidLooks := .later }
def RoomSeenUptoCardSaid : Prop := Claim7.holds Tryz.pinned (.plain (OpenSpec.upto roomSeenSpec)) roomSeenUptoCard

/-- THE SECOND FORM's CARD OF 'rosettakeep.RoomMeets'. -/
def roomMeetsUptoCard : Claim7 := { stood := { row := roomMeetsUptoRow, standIns := [], harness := (true, "5adec8c05d83520dd34b84957696734496ab3596274096e87fa1a28cbff8369e"), looks := true }, kinds := [], alts := [], laidByText := true, laidKinds := [.handle], laidTests := true, laidLooks := .later }
def RoomMeetsUptoCardSaid : Prop := Claim7.holds Tryz.pinned (.plain (OpenSpec.upto roomMeetsSpec)) roomMeetsUptoCard

/-- THE SECOND FORM's CARD OF 'rosettalaw.RoomPlays'. -/
def roomPlaysUptoCard : Claim7 := { stood := { row := roomPlaysUptoRow, standIns := [], harness := (true, "5adec8c05d83520dd34b84957696734496ab3596274096e87fa1a28cbff8369e"), looks := true }, kinds := [], alts := [], laidByText := true, laidKinds := [.handle], laidTests := true, laidLooks := .later }
def RoomPlaysUptoCardSaid : Prop := Claim7.holds Tryz.pinned (.plain (OpenSpec.upto roomPlaysSpec)) roomPlaysUptoCard
end Rows
end Go.Proofs.YtdgdajnbkfmijaaGreatDoor
