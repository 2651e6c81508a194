/-
  DERIVED. GIVEN WITH THE SEED: THE CARDS: each row of YtckkgdmkfbkaoaaGreatDoorRows.lean that lists a variable, with what it lists TIED to the program's text (the seventh form; the later family's looks); each row that meets fmt, with fmt's text TOLD by the authors' own Lean function (tested against real Go, not proved from fmt's source: count such statements apart). THE CARD IS WHAT COUNTS. Prove the row's statement (the work); the ties are given (YtckkgdmkfbkaoaaGreatDoorTie.lean); close each card by the builder's one call (the guide's Derived/Test/ToyasCard.lean, 'card_holds'). Laid BY PROGRAM, IN A SANDBOX (cutbox-door.mjs). By AI agents, Wed Nov 11 2026. No macro, syntax, notation, axiom, sorry.
-/
import Derived.Test.YtckkgdmkfbkaoaaGreatDoorRows
import GoSem.ClaimSeven
namespace Go.Proofs.YtckkgdmkfbkaoaaGreatDoor
namespace Rows

/-- THE TIED CARD OF 'rosettakeep.ManyWorkers'. -/
def manyWorkersCard : Claim7 := { stood := { row := manyWorkersRow, standIns := [], harness := (true, "7d6643eda84ff6734207af8abd18f7c4ea04833f62fbdb3fab63e98a1e4d05d0"), looks := true }, kinds := [], alts := [], goes := true, laidByText := true, laidKinds := [.data, .data, .data, .data, .handle, .sentinel, .sentinel, .pinned], laidTests := true, laidLooks := .later }
def ManyWorkersCardSaid : Prop := Claim7.holds Tryz.pinned (.plain (OpenSpec.ofChange manyWorkersSpec)) manyWorkersCard

/-- THE TIED CARD OF 'rosettalaw.ManyAnswers'. -/
def manyAnswersCard : Claim7 := { stood := { row := manyAnswersRow, standIns := [], harness := (true, "7d6643eda84ff6734207af8abd18f7c4ea04833f62fbdb3fab63e98a1e4d05d0"), looks := true }, kinds := [], alts := [], goes := true, laidByText := true, laidKinds := [.data, .data, .data, .data, .handle, .sentinel, .sentinel, .pinned], laidTests := true, laidLooks := .later }
def ManyAnswersCardSaid : Prop := Claim7.holds Tryz.pinned (.plain (OpenSpec.ofChange manyAnswersSpec)) manyAnswersCard

/-- THE TIED CARD OF 'rosettakeep.DeskPieces'. -/
def deskPiecesCard : Claim7 := { stood := { row := deskPiecesRow, standIns := [], harness := (true, "7d6643eda84ff6734207af8abd18f7c4ea04833f62fbdb3fab63e98a1e4d05d0"), looks := true }, kinds := [], alts := [], goes := true, laidByText := true, laidKinds := [.data, .data, .data, .data, .handle, .sentinel, .sentinel, .pinned], laidTests := true, laidLooks := .later }
def DeskPiecesCardSaid : Prop := Claim7.holds Tryz.pinned (.plain (OpenSpec.ofChange deskPiecesSpec)) deskPiecesCard

/-- THE TIED CARD OF 'rosettalaw.DeskAnswers'. -/
def deskAnswersCard : Claim7 := { stood := { row := deskAnswersRow, standIns := [], harness := (true, "7d6643eda84ff6734207af8abd18f7c4ea04833f62fbdb3fab63e98a1e4d05d0"), looks := true }, kinds := [], alts := [], goes := true, laidByText := true, laidKinds := [.data, .data, .data, .data, .handle, .sentinel, .sentinel, .pinned], laidTests := true, laidLooks := .later }
def DeskAnswersCardSaid : Prop := Claim7.holds Tryz.pinned (.plain (OpenSpec.ofChange deskAnswersSpec)) deskAnswersCard
end Rows
end Go.Proofs.YtckkgdmkfbkaoaaGreatDoor
