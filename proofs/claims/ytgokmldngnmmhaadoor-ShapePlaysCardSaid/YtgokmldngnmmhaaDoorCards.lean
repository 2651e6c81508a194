/-
  DERIVED. GIVEN WITH THE SEED: THE CARDS: each row of YtgokmldngnmmhaaDoorRows.lean that lists a variable, with what it lists TIED to the program's text (the seventh form; the later family's looks); each row that meets fmt, with fmt's text TOLD by the authors' own Lean function (tested against real Go, not proved from fmt's source: count such statements apart). THE CARD IS WHAT COUNTS. Prove the row's statement (the work); the ties are given (YtgokmldngnmmhaaDoorTie.lean); close each card by the builder's one call (the guide's Derived/Test/ToyasCard.lean, 'card_holds'). Laid BY PROGRAM, IN A SANDBOX (cutbox-door.mjs). By AI agents, Wed Nov 11 2026. No macro, syntax, notation, axiom, sorry.
-/
import Derived.Test.YtgokmldngnmmhaaDoorRows
import GoSem.ClaimSeven
namespace Go.Proofs.YtgokmldngnmmhaaDoor
namespace Rows

/-- THE TIED CARD OF 'rosettalaw.UtfReads'. -/
def utfReadsCard : Claim7 := { stood := { row := utfReadsRow, standIns := [], harness := (true, "1b313b8d0bcb6730158f5349ee6e01706d4a657b62c8c2889ca5c8f6ef7028ef"), looks := true }, kinds := [], alts := [], laidByText := true, laidKinds := [.handle], laidTests := true, laidLooks := .later }
def UtfReadsCardSaid : Prop := Claim7.holds Tryd.pinned (.plain (OpenSpec.ofChange utfReadsSpec)) utfReadsCard

/-- THE TIED CARD OF 'rosettalaw.OpsApply'. -/
def opsApplyCard : Claim7 := { stood := { row := opsApplyRow, standIns := [], harness := (true, "1b313b8d0bcb6730158f5349ee6e01706d4a657b62c8c2889ca5c8f6ef7028ef"), looks := true }, kinds := [], alts := [], laidByText := true, laidKinds := [.handle], laidTests := true, laidLooks := .later }
def OpsApplyCardSaid : Prop := Claim7.holds Tryd.pinned (.plain (OpenSpec.ofChange opsApplySpec)) opsApplyCard

/-- THE TIED CARD OF 'rosettalaw.ShapePlays'. -/
def shapePlaysCard : Claim7 := { stood := { row := shapePlaysRow, standIns := [], harness := (true, "1b313b8d0bcb6730158f5349ee6e01706d4a657b62c8c2889ca5c8f6ef7028ef"), looks := true }, kinds := [], alts := [], laidByText := true, laidKinds := [.handle], laidTests := true, laidLooks := .later }
def ShapePlaysCardSaid : Prop := Claim7.holds Tryd.pinned (.plain (OpenSpec.ofChange shapePlaysSpec)) shapePlaysCard

/-- THE TIED CARD OF 'rosettalaw.RopeGreat'. -/
def ropeGreatCard : Claim7 := { stood := { row := ropeGreatRow, standIns := [], harness := (true, "1b313b8d0bcb6730158f5349ee6e01706d4a657b62c8c2889ca5c8f6ef7028ef"), looks := true }, kinds := [], alts := [], laidByText := true, laidKinds := [.handle], laidTests := true, laidLooks := .later }
def RopeGreatCardSaid : Prop := Claim7.holds Tryd.pinned (.plain (OpenSpec.ofChange ropeGreatSpec)) ropeGreatCard

/-- THE TIED CARD OF 'rosettakeep.OpsMeet'. -/
def opsMeetCard : Claim7 := { stood := { row := opsMeetRow, standIns := [], harness := (true, "1b313b8d0bcb6730158f5349ee6e01706d4a657b62c8c2889ca5c8f6ef7028ef"), looks := true }, kinds := [], alts := [], laidByText := true, laidKinds := [.handle], laidTests := true, laidLooks := .later }
def OpsMeetCardSaid : Prop := Claim7.holds Tryd.pinned (.plain (OpenSpec.ofChange opsMeetSpec)) opsMeetCard

/-- THE TIED CARD OF 'rosettalaw.BridgeTurns'. -/
def bridgeTurnsCard : Claim7 := { stood := { row := bridgeTurnsRow, standIns := [], harness := (true, "1b313b8d0bcb6730158f5349ee6e01706d4a657b62c8c2889ca5c8f6ef7028ef"), looks := true }, kinds := [], alts := [], laidByText := true, laidKinds := [.handle], laidTests := true, laidLooks := .later }
def BridgeTurnsCardSaid : Prop := Claim7.holds Tryd.pinned (.plain (OpenSpec.ofChange bridgeTurnsSpec)) bridgeTurnsCard

/-- THE TIED CARD OF 'rosettalaw.PosConverts'. -/
def posConvertsCard : Claim7 := { stood := { row := posConvertsRow, standIns := [], harness := (true, "1b313b8d0bcb6730158f5349ee6e01706d4a657b62c8c2889ca5c8f6ef7028ef"), looks := true }, kinds := [], alts := [], laidByText := true, laidKinds := [.handle], laidTests := true, laidLooks := .later }
def PosConvertsCardSaid : Prop := Claim7.holds Tryd.pinned (.plain (OpenSpec.ofChange posConvertsSpec)) posConvertsCard

/-- THE TIED CARD OF 'rosettakeep.OpsAlong'. -/
def opsAlongCard : Claim7 := { stood := { row := opsAlongRow, standIns := [], harness := (true, "1b313b8d0bcb6730158f5349ee6e01706d4a657b62c8c2889ca5c8f6ef7028ef"), looks := true }, kinds := [], alts := [], laidByText := true, laidKinds := [.handle], laidTests := true, laidLooks := .later }
def OpsAlongCardSaid : Prop := Claim7.holds Tryd.pinned (.plain (OpenSpec.ofChange opsAlongSpec)) opsAlongCard

/-- THE TIED CARD OF 'rosettakeep.ShapeAlike'. -/
def shapeAlikeCard : Claim7 := { stood := { row := shapeAlikeRow, standIns := [], harness := (true, "1b313b8d0bcb6730158f5349ee6e01706d4a657b62c8c2889ca5c8f6ef7028ef"), looks := true }, kinds := [], alts := [], laidByText := true, laidKinds := [.handle], laidTests := true, laidLooks := .later }
def ShapeAlikeCardSaid : Prop := Claim7.holds Tryd.pinned (.plain (OpenSpec.ofChange shapeAlikeSpec)) shapeAlikeCard

/-- THE TIED CARD OF 'rosettakeep.OpsOne'. -/
def opsOneCard : Claim7 := { stood := { row := opsOneRow, standIns := [], harness := (true, "1b313b8d0bcb6730158f5349ee6e01706d4a657b62c8c2889ca5c8f6ef7028ef"), looks := true }, kinds := [], alts := [], laidByText := true, laidKinds := [.handle], laidTests := true, laidLooks := .later }
def OpsOneCardSaid : Prop := Claim7.holds Tryd.pinned (.plain (OpenSpec.ofChange opsOneSpec)) opsOneCard

/-- THE TIED CARD OF 'rosettalaw.RopePlays'. -/
def ropePlaysCard : Claim7 := { stood := { row := ropePlaysRow, standIns := [], harness := (true, "1b313b8d0bcb6730158f5349ee6e01706d4a657b62c8c2889ca5c8f6ef7028ef"), looks := true }, kinds := [], alts := [], laidByText := true, laidKinds := [.handle], laidTests := true, laidLooks := .later }
def RopePlaysCardSaid : Prop := Claim7.holds Tryd.pinned (.plain (OpenSpec.ofChange ropePlaysSpec)) ropePlaysCard

/-- THE SECOND FORM's CARD OF 'rosettalaw.UtfReads'. -/
def utfReadsUptoCard : Claim7 := { stood := { row := utfReadsUptoRow, standIns := [], harness := (true, "1b313b8d0bcb6730158f5349ee6e01706d4a657b62c8c2889ca5c8f6ef7028ef"), looks := true }, kinds := [], alts := [], laidByText := true, laidKinds := [.handle], laidTests := true, laidLooks := .later }
def UtfReadsUptoCardSaid : Prop := Claim7.holds Tryd.pinned (.plain (OpenSpec.upto utfReadsSpec)) utfReadsUptoCard

/-- THE SECOND FORM's CARD OF 'rosettalaw.OpsApply'. -/
def opsApplyUptoCard : Claim7 := { stood := { row := opsApplyUptoRow, standIns := [], harness := (true, "1b313b8d0bcb6730158f5349ee6e01706d4a657b62c8c2889ca5c8f6ef7028ef"), looks := true }, kinds := [], alts := [], laidByText := true, laidKinds := [.handle], laidTests := true, laidLooks := .later }
def OpsApplyUptoCardSaid : Prop := Claim7.holds Tryd.pinned (.plain (OpenSpec.upto opsApplySpec)) opsApplyUptoCard

/-- THE SECOND FORM's CARD OF 'rosettalaw.ShapePlays'. -/
def shapePlaysUptoCard : Claim7 := { stood := { row := shapePlaysUptoRow, standIns := [], harness := (true, "1b313b8d0bcb6730158f5349ee6e01706d4a657b62c8c2889ca5c8f6ef7028ef"), looks := true }, kinds := [], alts := [], laidByText := true, laidKinds := [.handle], laidTests := true, laidLooks := .later }
def ShapePlaysUptoCardSaid : Prop := Claim7.holds Tryd.pinned (.plain (OpenSpec.upto shapePlaysSpec)) shapePlaysUptoCard

/-- THE SECOND FORM's CARD OF 'rosettalaw.RopeGreat'. -/
def ropeGreatUptoCard : Claim7 := { stood := { row := ropeGreatUptoRow, standIns := [], harness := (true, "1b313b8d0bcb6730158f5349ee6e01706d4a657b62c8c2889ca5c8f6ef7028ef"), looks := true }, kinds := [], alts := [], laidByText := true, laidKinds := [.handle], laidTests := true, laidLooks := .later }
def RopeGreatUptoCardSaid : Prop := Claim7.holds Tryd.pinned (.plain (OpenSpec.upto ropeGreatSpec)) ropeGreatUptoCard

/-- THE SECOND FORM's CARD OF 'rosettakeep.OpsMeet'. -/
def opsMeetUptoCard : Claim7 := { stood := { row := opsMeetUptoRow, standIns := [], harness := (true, "1b313b8d0bcb6730158f5349ee6e01706d4a657b62c8c2889ca5c8f6ef7028ef"), looks := true }, kinds := [], alts := [], laidByText := true, laidKinds := [.handle], laidTests := true, laidLooks := .later }
def OpsMeetUptoCardSaid : Prop := Claim7.holds Tryd.pinned (.plain (OpenSpec.upto opsMeetSpec)) opsMeetUptoCard

/-- THE SECOND FORM's CARD OF 'rosettalaw.BridgeTurns'. -/
def bridgeTurnsUptoCard : Claim7 := { stood := { row := bridgeTurnsUptoRow, standIns := [], harness := (true, "1b313b8d0bcb6730158f5349ee6e01706d4a657b62c8c2889ca5c8f6ef7028ef"), looks := true }, kinds := [], alts := [], laidByText := true, laidKinds := [.handle], laidTests := true, laidLooks := .later }
def BridgeTurnsUptoCardSaid : Prop := Claim7.holds Tryd.pinned (.plain (OpenSpec.upto bridgeTurnsSpec)) bridgeTurnsUptoCard

/-- THE SECOND FORM's CARD OF 'rosettalaw.PosConverts'. -/
def posConvertsUptoCard : Claim7 := { stood := { row := posConvertsUptoRow, standIns := [], harness := (true, "1b313b8d0bcb6730158f5349ee6e01706d4a657b62c8c2889ca5c8f6ef7028ef"), looks := true }, kinds := [], alts := [], laidByText := true, laidKinds := [.handle], laidTests := true, laidLooks := .later }
def PosConvertsUptoCardSaid : Prop := Claim7.holds Tryd.pinned (.plain (OpenSpec.upto posConvertsSpec)) posConvertsUptoCard

/-- THE SECOND FORM's CARD OF 'rosettakeep.OpsAlong'. -/
def opsAlongUptoCard : Claim7 := { stood := { row := opsAlongUptoRow, standIns := [], harness := (true, "1b313b8d0bcb6730158f5349ee6e01706d4a657b62c8c2889ca5c8f6ef7028ef"), looks := true }, kinds := [], alts := [], laidByText := true, laidKinds := [.handle], laidTests := true, laidLooks := .later }
def OpsAlongUptoCardSaid : Prop := Claim7.holds Tryd.pinned (.plain (OpenSpec.upto opsAlongSpec)) opsAlongUptoCard

/-- THE SECOND FORM's CARD OF 'rosettakeep.ShapeAlike'. -/
def shapeAlikeUptoCard : Claim7 := { stood := { row := shapeAlikeUptoRow, standIns := [], harness := (true, "1b313b8d0bcb6730158f5349ee6e01706d4a657b62c8c2889ca5c8f6ef7028ef"), looks := true }, kinds := [], alts := [], laidByText := true, laidKinds := [.handle], laidTests := true, laidLooks := .later }
def ShapeAlikeUptoCardSaid : Prop := Claim7.holds Tryd.pinned (.plain (OpenSpec.upto shapeAlikeSpec)) shapeAlikeUptoCard

/-- THE SECOND FORM's CARD OF 'rosettakeep.OpsOne'. -/
def opsOneUptoCard : Claim7 := { stood := { row := opsOneUptoRow, standIns := [], harness := (true, "1b313b8d0bcb6730158f5349ee6e01706d4a657b62c8c2889ca5c8f6ef7028ef"), looks := true }, kinds := [], alts := [], laidByText := true, laidKinds := [.handle], laidTests := true, laidLooks := .later }
def OpsOneUptoCardSaid : Prop := Claim7.holds Tryd.pinned (.plain (OpenSpec.upto opsOneSpec)) opsOneUptoCard

/-- THE SECOND FORM's CARD OF 'rosettalaw.RopePlays'. -/
def ropePlaysUptoCard : Claim7 := { stood := { row := ropePlaysUptoRow, standIns := [], harness := (true, "1b313b8d0bcb6730158f5349ee6e01706d4a657b62c8c2889ca5c8f6ef7028ef"), looks := true }, kinds := [], alts := [], laidByText := true, laidKinds := [.handle], laidTests := true, laidLooks := .later }
def RopePlaysUptoCardSaid : Prop := Claim7.holds Tryd.pinned (.plain (OpenSpec.upto ropePlaysSpec)) ropePlaysUptoCard
end Rows
end Go.Proofs.YtgokmldngnmmhaaDoor
