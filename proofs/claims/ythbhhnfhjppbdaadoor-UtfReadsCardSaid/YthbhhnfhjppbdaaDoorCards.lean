/-
  DERIVED. GIVEN WITH THE SEED: THE CARDS: each row of YthbhhnfhjppbdaaDoorRows.lean that lists a variable, with what it lists TIED to the program's text (the seventh form; the later family's looks); each row that meets fmt, with fmt's text TOLD by the authors' own Lean function (tested against real Go, not proved from fmt's source: count such statements apart). THE CARD IS WHAT COUNTS. Prove the row's statement (the work); the ties are given (YthbhhnfhjppbdaaDoorTie.lean); close each card by the builder's one call (the guide's Derived/Test/ToyasCard.lean, 'card_holds'). Laid BY PROGRAM, IN A SANDBOX (cutbox-door.mjs). By AI agents, Wed Nov 11 2026. No macro, syntax, notation, axiom, sorry.
-/
import Derived.Test.YthbhhnfhjppbdaaDoorRows
import GoSem.ClaimSeven
namespace Go.Proofs.YthbhhnfhjppbdaaDoor
namespace Rows

/-- THE TIED CARD OF 'rosettalaw.OpsTransform'. -/
def opsTransformCard : Claim7 := { stood := { row := opsTransformRow, standIns := [], harness := (true, "39f4fb1a694086f5ed37064d732d7062022cde7a6981b9afc3fb32227d75b995"), looks := true }, kinds := [], alts := [], laidByText := true, laidKinds := [.handle], laidTests := true, laidLooks := .later }
def OpsTransformCardSaid : Prop := Claim7.holds Tryd.pinned (.plain (OpenSpec.ofChange opsTransformSpec)) opsTransformCard

/-- THE TIED CARD OF 'rosettalaw.OpsCompose'. -/
def opsComposeCard : Claim7 := { stood := { row := opsComposeRow, standIns := [], harness := (true, "39f4fb1a694086f5ed37064d732d7062022cde7a6981b9afc3fb32227d75b995"), looks := true }, kinds := [], alts := [], laidByText := true, laidKinds := [.handle], laidTests := true, laidLooks := .later }
def OpsComposeCardSaid : Prop := Claim7.holds Tryd.pinned (.plain (OpenSpec.ofChange opsComposeSpec)) opsComposeCard

/-- THE TIED CARD OF 'rosettalaw.UtfReads'. -/
def utfReadsCard : Claim7 := { stood := { row := utfReadsRow, standIns := [], harness := (true, "39f4fb1a694086f5ed37064d732d7062022cde7a6981b9afc3fb32227d75b995"), looks := true }, kinds := [], alts := [], laidByText := true, laidKinds := [.handle], laidTests := true, laidLooks := .later }
def UtfReadsCardSaid : Prop := Claim7.holds Tryd.pinned (.plain (OpenSpec.ofChange utfReadsSpec)) utfReadsCard

/-- THE TIED CARD OF 'rosettalaw.OpsApply'. -/
def opsApplyCard : Claim7 := { stood := { row := opsApplyRow, standIns := [], harness := (true, "39f4fb1a694086f5ed37064d732d7062022cde7a6981b9afc3fb32227d75b995"), looks := true }, kinds := [], alts := [], laidByText := true, laidKinds := [.handle], laidTests := true, laidLooks := .later }
def OpsApplyCardSaid : Prop := Claim7.holds Tryd.pinned (.plain (OpenSpec.ofChange opsApplySpec)) opsApplyCard

/-- THE TIED CARD OF 'rosettalaw.ShapePlays'. -/
def shapePlaysCard : Claim7 := { stood := { row := shapePlaysRow, standIns := [], harness := (true, "39f4fb1a694086f5ed37064d732d7062022cde7a6981b9afc3fb32227d75b995"), looks := true }, kinds := [], alts := [], laidByText := true, laidKinds := [.handle], laidTests := true, laidLooks := .later }
def ShapePlaysCardSaid : Prop := Claim7.holds Tryd.pinned (.plain (OpenSpec.ofChange shapePlaysSpec)) shapePlaysCard

/-- THE SECOND FORM's CARD OF 'rosettalaw.OpsTransform'. -/
def opsTransformUptoCard : Claim7 := { stood := { row := opsTransformUptoRow, standIns := [], harness := (true, "39f4fb1a694086f5ed37064d732d7062022cde7a6981b9afc3fb32227d75b995"), looks := true }, kinds := [], alts := [], laidByText := true, laidKinds := [.handle], laidTests := true, laidLooks := .later }
def OpsTransformUptoCardSaid : Prop := Claim7.holds Tryd.pinned (.plain (OpenSpec.upto opsTransformSpec)) opsTransformUptoCard

/-- THE SECOND FORM's CARD OF 'rosettalaw.OpsCompose'. -/
def opsComposeUptoCard : Claim7 := { stood := { row := opsComposeUptoRow, standIns := [], harness := (true, "39f4fb1a694086f5ed37064d732d7062022cde7a6981b9afc3fb32227d75b995"), looks := true }, kinds := [], alts := [], laidByText := true, laidKinds := [.handle], laidTests := true, laidLooks := .later }
def OpsComposeUptoCardSaid : Prop := Claim7.holds Tryd.pinned (.plain (OpenSpec.upto opsComposeSpec)) opsComposeUptoCard

/-- THE SECOND FORM's CARD OF 'rosettalaw.UtfReads'. -/
def utfReadsUptoCard : Claim7 := { stood := { row := utfReadsUptoRow, standIns := [], harness := (true, "39f4fb1a694086f5ed37064d732d7062022cde7a6981b9afc3fb32227d75b995"), looks := true }, kinds := [], alts := [], laidByText := true, laidKinds := [.handle], laidTests := true, laidLooks := .later }
def UtfReadsUptoCardSaid : Prop := Claim7.holds Tryd.pinned (.plain (OpenSpec.upto utfReadsSpec)) utfReadsUptoCard

/-- THE SECOND FORM's CARD OF 'rosettalaw.OpsApply'. -/
def opsApplyUptoCard : Claim7 := { stood := { row := opsApplyUptoRow, standIns := [], harness := (true, "39f4fb1a694086f5ed37064d732d7062022cde7a6981b9afc3fb32227d75b995"), looks := true }, kinds := [], alts := [], laidByText := true, laidKinds := [.handle], laidTests := true, laidLooks := .later }
def OpsApplyUptoCardSaid : Prop := Claim7.holds Tryd.pinned (.plain (OpenSpec.upto opsApplySpec)) opsApplyUptoCard

/-- THE SECOND FORM's CARD OF 'rosettalaw.ShapePlays'. -/
def shapePlaysUptoCard : Claim7 := { stood := { row := shapePlaysUptoRow, standIns := [], harness := (true, "39f4fb1a694086f5ed37064d732d7062022cde7a6981b9afc3fb32227d75b995"), looks := true }, kinds := [], alts := [], laidByText := true, laidKinds := [.handle], laidTests := true, laidLooks := .later }
def ShapePlaysUptoCardSaid : Prop := Claim7.holds Tryd.pinned (.plain (OpenSpec.upto shapePlaysSpec)) shapePlaysUptoCard
end Rows
end Go.Proofs.YthbhhnfhjppbdaaDoor
