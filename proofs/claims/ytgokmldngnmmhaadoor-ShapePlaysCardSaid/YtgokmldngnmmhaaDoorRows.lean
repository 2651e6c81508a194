/-
  NARROWER THAN 'FOR EVERY INPUT', by the rows' own cells (each row's printed sentence says how): UtfReads: laid · OpsApply: laid · ShapePlays: laid · RopeGreat: laid · OpsMeet: laid · BridgeTurns: laid · PosConverts: laid · OpsAlong: laid · ShapeAlike: laid · OpsOne: laid · RopePlays: laid.
  DERIVED. THE GIVEN ROWS OF THIS SEAT. 11 by the template 'for every input the law returns true; each argument reads behind the call as it read before'; 0 by the template 'total and deterministic' (their statements: YtgokmldngnmmhaaDoorTotals.lean).
  GIVEN WITH THE SEED: the statements are not yours to turn. If you find one false, say at which input.
  Laid BY PROGRAM, IN A SANDBOX (cutbox-rows.mjs): the forced cells as the released guide's own fill.sh prints them over the translation 2a42bb05ff432894… (all of the seat's roots in one cut). By AI agents, Wed Nov 11 2026. No macro, syntax, notation, axiom, sorry.
-/
import Derived.Test.YtgokmldngnmmhaaDoorChecked
import GoSem.Claim
import GoSem.ClaimJoined
import GoSem.ClaimMapViews
import Derived.JoinedTies
import Derived.KernelRfl
namespace Go.Proofs.YtgokmldngnmmhaaDoor
/- THE CELL 'sum', in the pinned program and in every row, IS THE sha256 OF THE DUMP (.gsa) THAT YtgokmldngnmmhaaDoorProg.lean LOADS. Nothing in Lean hashes anything: it is a label: what it is worth is what the hold of that sum in a sandbox is worth. -/
noncomputable def Tryd.pinned : Pinned := { name := "ytgokmldngnmmhaadoor", sum := "2a42bb05ff4328946cac6d66476649c9c6c41a9dbf913e402e829d874d6d5f44", checked := Tryd.checked }
namespace Rows
def none {H : Type} : Left H := { results := [], args := [] }

/- WHAT THE LISTED PACKAGE-LEVEL VARIABLES READ AS WHEN THE CALL BEGINS. Each datum BY PROGRAM (the guide's laid-datum.mjs) off the statement by which the dump's own 'gosem.cut.vars' lays the variable. In a bare row this is a premise. The card (YtgokmldngnmmhaaDoorCards.lean) ties it to the program's text. -/
def laid_errors_errorType {H : Type} : DataW H := .iface "internal/reflectlite.rtype" (.agg [.ptr (.lit (.string [101, 114, 114, 111, 114]))])

/-- 'rosettalaw.UtfReads': WHATEVER THE INPUT: true; the input reads as it did. -/
def utfReadsSpec : ChangeSpec := { name := "utfReads", fn := fun _ => fun
  | [d] => { results := [.lit (.bool true)], args := [d] }
  | _ => none }
def utfReadsRow : OpenClaim := { program := "ytgokmldngnmmhaadoor", sum := "2a42bb05ff4328946cac6d66476649c9c6c41a9dbf913e402e829d874d6d5f44", func := "rosetta/rosettalaw.UtfReads", spec := "utfReads", inPlace := ["internal/bytealg.CountString", "internal/bytealg.IndexByteString", "internal/bytealg.IndexString", "internal/reflectlite.ValueOf", "(internal/reflectlite.Value).Type", "(internal/reflectlite.Value).IsNil", "internal/reflectlite.TypeOf", "(internal/reflectlite.Value).Elem", "(internal/reflectlite.Value).Set"], unfollowed := true, recurses := true, named := ["internal/bytealg.MaxLen", "errors.errorType"], apart := false, laid := [("errors.errorType", laid_errors_errorType)] }
def UtfReadsSaid : Prop := utfReadsRow.holds Tryd.pinned (OpenSpec.ofChange utfReadsSpec)

/-- ITS FALSE NEIGHBOUR: 'it returns false'. Refute it at one input. -/
def utfReadsWrong : ChangeSpec := { name := "utfReads", fn := fun _ => fun
  | [d] => { results := [.lit (.bool false)], args := [d] }
  | _ => none }
def UtfReadsWrongFalsely : Prop := utfReadsRow.holds Tryd.pinned (OpenSpec.ofChange utfReadsWrong)

/-- 'rosettalaw.OpsApply': WHATEVER THE INPUT: true; the input reads as it did. -/
def opsApplySpec : ChangeSpec := { name := "opsApply", fn := fun _ => fun
  | [d1, d2] => { results := [.lit (.bool true)], args := [d1, d2] }
  | _ => none }
def opsApplyRow : OpenClaim := { program := "ytgokmldngnmmhaadoor", sum := "2a42bb05ff4328946cac6d66476649c9c6c41a9dbf913e402e829d874d6d5f44", func := "rosetta/rosettalaw.OpsApply", spec := "opsApply", inPlace := ["internal/bytealg.CountString", "internal/bytealg.IndexByteString", "internal/bytealg.IndexString", "internal/reflectlite.ValueOf", "(internal/reflectlite.Value).Type", "(internal/reflectlite.Value).IsNil", "internal/reflectlite.TypeOf", "(internal/reflectlite.Value).Elem", "(internal/reflectlite.Value).Set", "internal/abi.NoEscape"], unfollowed := true, recurses := true, named := ["internal/bytealg.MaxLen", "errors.errorType"], apart := false, laid := [("errors.errorType", laid_errors_errorType)] }
def OpsApplySaid : Prop := opsApplyRow.holds Tryd.pinned (OpenSpec.ofChange opsApplySpec)

/-- ITS FALSE NEIGHBOUR: 'it returns false'. Refute it at one input. -/
def opsApplyWrong : ChangeSpec := { name := "opsApply", fn := fun _ => fun
  | [d1, d2] => { results := [.lit (.bool false)], args := [d1, d2] }
  | _ => none }
def OpsApplyWrongFalsely : Prop := opsApplyRow.holds Tryd.pinned (OpenSpec.ofChange opsApplyWrong)

/-- 'rosettalaw.ShapePlays': WHATEVER THE INPUT: true; the input reads as it did. -/
def shapePlaysSpec : ChangeSpec := { name := "shapePlays", fn := fun _ => fun
  | [d1, d2, d3] => { results := [.lit (.bool true)], args := [d1, d2, d3] }
  | _ => none }
def shapePlaysRow : OpenClaim := { program := "ytgokmldngnmmhaadoor", sum := "2a42bb05ff4328946cac6d66476649c9c6c41a9dbf913e402e829d874d6d5f44", func := "rosetta/rosettalaw.ShapePlays", spec := "shapePlays", inPlace := ["internal/reflectlite.ValueOf", "(internal/reflectlite.Value).Type", "(internal/reflectlite.Value).IsNil", "internal/reflectlite.TypeOf", "(internal/reflectlite.Value).Elem", "(internal/reflectlite.Value).Set", "internal/bytealg.CountString", "internal/bytealg.IndexByteString", "internal/bytealg.IndexString"], unfollowed := true, recurses := true, named := ["errors.errorType", "internal/bytealg.MaxLen"], apart := false, laid := [("errors.errorType", laid_errors_errorType)] }
def ShapePlaysSaid : Prop := shapePlaysRow.holds Tryd.pinned (OpenSpec.ofChange shapePlaysSpec)

/-- ITS FALSE NEIGHBOUR: 'it returns false'. Refute it at one input. -/
def shapePlaysWrong : ChangeSpec := { name := "shapePlays", fn := fun _ => fun
  | [d1, d2, d3] => { results := [.lit (.bool false)], args := [d1, d2, d3] }
  | _ => none }
def ShapePlaysWrongFalsely : Prop := shapePlaysRow.holds Tryd.pinned (OpenSpec.ofChange shapePlaysWrong)

/-- 'rosettalaw.RopeGreat': WHATEVER THE INPUT: true; the input reads as it did. -/
def ropeGreatSpec : ChangeSpec := { name := "ropeGreat", fn := fun _ => fun
  | [d1, d2] => { results := [.lit (.bool true)], args := [d1, d2] }
  | _ => none }
def ropeGreatRow : OpenClaim := { program := "ytgokmldngnmmhaadoor", sum := "2a42bb05ff4328946cac6d66476649c9c6c41a9dbf913e402e829d874d6d5f44", func := "rosetta/rosettalaw.RopeGreat", spec := "ropeGreat", inPlace := ["internal/reflectlite.ValueOf", "(internal/reflectlite.Value).Type", "(internal/reflectlite.Value).IsNil", "internal/reflectlite.TypeOf", "(internal/reflectlite.Value).Elem", "(internal/reflectlite.Value).Set", "internal/bytealg.CountString", "internal/bytealg.IndexByteString", "internal/bytealg.IndexString", "internal/abi.NoEscape"], unfollowed := true, recurses := true, named := ["errors.errorType", "internal/bytealg.MaxLen"], apart := false, laid := [("errors.errorType", laid_errors_errorType)] }
def RopeGreatSaid : Prop := ropeGreatRow.holds Tryd.pinned (OpenSpec.ofChange ropeGreatSpec)

/-- ITS FALSE NEIGHBOUR: 'it returns false'. Refute it at one input. -/
def ropeGreatWrong : ChangeSpec := { name := "ropeGreat", fn := fun _ => fun
  | [d1, d2] => { results := [.lit (.bool false)], args := [d1, d2] }
  | _ => none }
def RopeGreatWrongFalsely : Prop := ropeGreatRow.holds Tryd.pinned (OpenSpec.ofChange ropeGreatWrong)

/-- 'rosettakeep.OpsMeet': WHATEVER THE INPUT: true; the input reads as it did. -/
def opsMeetSpec : ChangeSpec := { name := "opsMeet", fn := fun _ => fun
  | [d1, d2, d3, d4] => { results := [.lit (.bool true)], args := [d1, d2, d3, d4] }
  | _ => none }
def opsMeetRow : OpenClaim := { program := "ytgokmldngnmmhaadoor", sum := "2a42bb05ff4328946cac6d66476649c9c6c41a9dbf913e402e829d874d6d5f44", func := "rosetta/rosettakeep.OpsMeet", spec := "opsMeet", inPlace := ["internal/reflectlite.ValueOf", "(internal/reflectlite.Value).Type", "(internal/reflectlite.Value).IsNil", "internal/reflectlite.TypeOf", "(internal/reflectlite.Value).Elem", "(internal/reflectlite.Value).Set", "internal/abi.NoEscape"], unfollowed := true, recurses := true, named := ["errors.errorType"], apart := false, laid := [("errors.errorType", laid_errors_errorType)] }
def OpsMeetSaid : Prop := opsMeetRow.holds Tryd.pinned (OpenSpec.ofChange opsMeetSpec)

/-- ITS FALSE NEIGHBOUR: 'it returns false'. Refute it at one input. -/
def opsMeetWrong : ChangeSpec := { name := "opsMeet", fn := fun _ => fun
  | [d1, d2, d3, d4] => { results := [.lit (.bool false)], args := [d1, d2, d3, d4] }
  | _ => none }
def OpsMeetWrongFalsely : Prop := opsMeetRow.holds Tryd.pinned (OpenSpec.ofChange opsMeetWrong)

/-- 'rosettalaw.BridgeTurns': WHATEVER THE INPUT: true; the input reads as it did. -/
def bridgeTurnsSpec : ChangeSpec := { name := "bridgeTurns", fn := fun _ => fun
  | [d1, d2, d3] => { results := [.lit (.bool true)], args := [d1, d2, d3] }
  | _ => none }
def bridgeTurnsRow : OpenClaim := { program := "ytgokmldngnmmhaadoor", sum := "2a42bb05ff4328946cac6d66476649c9c6c41a9dbf913e402e829d874d6d5f44", func := "rosetta/rosettalaw.BridgeTurns", spec := "bridgeTurns", inPlace := ["internal/bytealg.CountString", "internal/bytealg.IndexByteString", "internal/bytealg.IndexString", "internal/reflectlite.ValueOf", "(internal/reflectlite.Value).Type", "(internal/reflectlite.Value).IsNil", "internal/reflectlite.TypeOf", "(internal/reflectlite.Value).Elem", "(internal/reflectlite.Value).Set"], unfollowed := true, recurses := true, named := ["internal/bytealg.MaxLen", "errors.errorType"], apart := false, laid := [("errors.errorType", laid_errors_errorType)] }
def BridgeTurnsSaid : Prop := bridgeTurnsRow.holds Tryd.pinned (OpenSpec.ofChange bridgeTurnsSpec)

/-- ITS FALSE NEIGHBOUR: 'it returns false'. Refute it at one input. -/
def bridgeTurnsWrong : ChangeSpec := { name := "bridgeTurns", fn := fun _ => fun
  | [d1, d2, d3] => { results := [.lit (.bool false)], args := [d1, d2, d3] }
  | _ => none }
def BridgeTurnsWrongFalsely : Prop := bridgeTurnsRow.holds Tryd.pinned (OpenSpec.ofChange bridgeTurnsWrong)

/-- 'rosettalaw.PosConverts': WHATEVER THE INPUT: true; the input reads as it did. -/
def posConvertsSpec : ChangeSpec := { name := "posConverts", fn := fun _ => fun
  | [d1, d2, d3, d4, d5] => { results := [.lit (.bool true)], args := [d1, d2, d3, d4, d5] }
  | _ => none }
def posConvertsRow : OpenClaim := { program := "ytgokmldngnmmhaadoor", sum := "2a42bb05ff4328946cac6d66476649c9c6c41a9dbf913e402e829d874d6d5f44", func := "rosetta/rosettalaw.PosConverts", spec := "posConverts", inPlace := ["internal/bytealg.CountString", "internal/bytealg.IndexByteString", "internal/bytealg.IndexString", "internal/reflectlite.ValueOf", "(internal/reflectlite.Value).Type", "(internal/reflectlite.Value).IsNil", "internal/reflectlite.TypeOf", "(internal/reflectlite.Value).Elem", "(internal/reflectlite.Value).Set"], unfollowed := true, recurses := true, named := ["internal/bytealg.MaxLen", "errors.errorType"], apart := false, laid := [("errors.errorType", laid_errors_errorType)] }
def PosConvertsSaid : Prop := posConvertsRow.holds Tryd.pinned (OpenSpec.ofChange posConvertsSpec)

/-- ITS FALSE NEIGHBOUR: 'it returns false'. Refute it at one input. -/
def posConvertsWrong : ChangeSpec := { name := "posConverts", fn := fun _ => fun
  | [d1, d2, d3, d4, d5] => { results := [.lit (.bool false)], args := [d1, d2, d3, d4, d5] }
  | _ => none }
def PosConvertsWrongFalsely : Prop := posConvertsRow.holds Tryd.pinned (OpenSpec.ofChange posConvertsWrong)

/-- 'rosettakeep.OpsAlong': WHATEVER THE INPUT: true; the input reads as it did. -/
def opsAlongSpec : ChangeSpec := { name := "opsAlong", fn := fun _ => fun
  | [d1, d2, d3, d4, d5] => { results := [.lit (.bool true)], args := [d1, d2, d3, d4, d5] }
  | _ => none }
def opsAlongRow : OpenClaim := { program := "ytgokmldngnmmhaadoor", sum := "2a42bb05ff4328946cac6d66476649c9c6c41a9dbf913e402e829d874d6d5f44", func := "rosetta/rosettakeep.OpsAlong", spec := "opsAlong", inPlace := ["internal/reflectlite.ValueOf", "(internal/reflectlite.Value).Type", "(internal/reflectlite.Value).IsNil", "internal/reflectlite.TypeOf", "(internal/reflectlite.Value).Elem", "(internal/reflectlite.Value).Set", "internal/abi.NoEscape"], unfollowed := true, recurses := true, named := ["errors.errorType"], apart := false, laid := [("errors.errorType", laid_errors_errorType)] }
def OpsAlongSaid : Prop := opsAlongRow.holds Tryd.pinned (OpenSpec.ofChange opsAlongSpec)

/-- ITS FALSE NEIGHBOUR: 'it returns false'. Refute it at one input. -/
def opsAlongWrong : ChangeSpec := { name := "opsAlong", fn := fun _ => fun
  | [d1, d2, d3, d4, d5] => { results := [.lit (.bool false)], args := [d1, d2, d3, d4, d5] }
  | _ => none }
def OpsAlongWrongFalsely : Prop := opsAlongRow.holds Tryd.pinned (OpenSpec.ofChange opsAlongWrong)

/-- 'rosettakeep.ShapeAlike': WHATEVER THE INPUT: true; the input reads as it did. -/
def shapeAlikeSpec : ChangeSpec := { name := "shapeAlike", fn := fun _ => fun
  | [d1, d2, d3, d4] => { results := [.lit (.bool true)], args := [d1, d2, d3, d4] }
  | _ => none }
def shapeAlikeRow : OpenClaim := { program := "ytgokmldngnmmhaadoor", sum := "2a42bb05ff4328946cac6d66476649c9c6c41a9dbf913e402e829d874d6d5f44", func := "rosetta/rosettakeep.ShapeAlike", spec := "shapeAlike", inPlace := ["internal/reflectlite.ValueOf", "(internal/reflectlite.Value).Type", "(internal/reflectlite.Value).IsNil", "internal/reflectlite.TypeOf", "(internal/reflectlite.Value).Elem", "(internal/reflectlite.Value).Set", "internal/abi.NoEscape"], unfollowed := true, recurses := true, named := ["errors.errorType"], apart := false, laid := [("errors.errorType", laid_errors_errorType)] }
def ShapeAlikeSaid : Prop := shapeAlikeRow.holds Tryd.pinned (OpenSpec.ofChange shapeAlikeSpec)

/-- ITS FALSE NEIGHBOUR: 'it returns false'. Refute it at one input. -/
def shapeAlikeWrong : ChangeSpec := { name := "shapeAlike", fn := fun _ => fun
  | [d1, d2, d3, d4] => { results := [.lit (.bool false)], args := [d1, d2, d3, d4] }
  | _ => none }
def ShapeAlikeWrongFalsely : Prop := shapeAlikeRow.holds Tryd.pinned (OpenSpec.ofChange shapeAlikeWrong)

/-- 'rosettakeep.OpsOne': WHATEVER THE INPUT: true; the input reads as it did. -/
def opsOneSpec : ChangeSpec := { name := "opsOne", fn := fun _ => fun
  | [d1, d2, d3, d4] => { results := [.lit (.bool true)], args := [d1, d2, d3, d4] }
  | _ => none }
def opsOneRow : OpenClaim := { program := "ytgokmldngnmmhaadoor", sum := "2a42bb05ff4328946cac6d66476649c9c6c41a9dbf913e402e829d874d6d5f44", func := "rosetta/rosettakeep.OpsOne", spec := "opsOne", inPlace := ["internal/reflectlite.ValueOf", "(internal/reflectlite.Value).Type", "(internal/reflectlite.Value).IsNil", "internal/reflectlite.TypeOf", "(internal/reflectlite.Value).Elem", "(internal/reflectlite.Value).Set", "internal/abi.NoEscape"], unfollowed := true, recurses := true, named := ["errors.errorType"], apart := false, laid := [("errors.errorType", laid_errors_errorType)] }
def OpsOneSaid : Prop := opsOneRow.holds Tryd.pinned (OpenSpec.ofChange opsOneSpec)

/-- ITS FALSE NEIGHBOUR: 'it returns false'. Refute it at one input. -/
def opsOneWrong : ChangeSpec := { name := "opsOne", fn := fun _ => fun
  | [d1, d2, d3, d4] => { results := [.lit (.bool false)], args := [d1, d2, d3, d4] }
  | _ => none }
def OpsOneWrongFalsely : Prop := opsOneRow.holds Tryd.pinned (OpenSpec.ofChange opsOneWrong)

/-- 'rosettalaw.RopePlays': WHATEVER THE INPUT: true; the input reads as it did. -/
def ropePlaysSpec : ChangeSpec := { name := "ropePlays", fn := fun _ => fun
  | [d1, d2, d3, d4, d5] => { results := [.lit (.bool true)], args := [d1, d2, d3, d4, d5] }
  | _ => none }
def ropePlaysRow : OpenClaim := { program := "ytgokmldngnmmhaadoor", sum := "2a42bb05ff4328946cac6d66476649c9c6c41a9dbf913e402e829d874d6d5f44", func := "rosetta/rosettalaw.RopePlays", spec := "ropePlays", inPlace := ["internal/bytealg.CountString", "internal/bytealg.IndexByteString", "internal/bytealg.IndexString", "internal/reflectlite.ValueOf", "(internal/reflectlite.Value).Type", "(internal/reflectlite.Value).IsNil", "internal/reflectlite.TypeOf", "(internal/reflectlite.Value).Elem", "(internal/reflectlite.Value).Set", "internal/abi.NoEscape"], unfollowed := true, recurses := true, named := ["internal/bytealg.MaxLen", "errors.errorType"], apart := false, laid := [("errors.errorType", laid_errors_errorType)] }
def RopePlaysSaid : Prop := ropePlaysRow.holds Tryd.pinned (OpenSpec.ofChange ropePlaysSpec)

/-- ITS FALSE NEIGHBOUR: 'it returns false'. Refute it at one input. -/
def ropePlaysWrong : ChangeSpec := { name := "ropePlays", fn := fun _ => fun
  | [d1, d2, d3, d4, d5] => { results := [.lit (.bool false)], args := [d1, d2, d3, d4, d5] }
  | _ => none }
def RopePlaysWrongFalsely : Prop := ropePlaysRow.holds Tryd.pinned (OpenSpec.ofChange ropePlaysWrong)

/- THE SECOND FORM. 'bulk': how many values and letters a reading holds, each counted each time it is reached (what is shared counts as often as it is met; a slice's spare places count too). A statement '..UptoSaid' is the law's where the arguments, and the package variables that the reading takes, are together of bulk at most 1048576: NARROWER than '..Said'. Prove '..Said' where nothing that the law and all that it calls make is longer than what came in: it says more and counts as full. Else prove '..UptoSaid'. A law counts once. -/
mutual
def uptoBulk {H : Type} : DataW H → Nat
  | .lit (.string bytes) => bytes.length + 1
  | .lit _ => 1
  | .nil => 1
  | .ptr d => uptoBulk d + 1
  | .slice elems spare => uptoBulkAll elems + uptoBulkAll spare + 1
  | .agg parts => uptoBulkAll parts + 1
  | .iface _ d => uptoBulk d + 1
  | .map entries => uptoBulkEntries entries + 1
  | .held _ => 1
def uptoBulkAll {H : Type} : List (DataW H) → Nat
  | [] => 0
  | d :: r => uptoBulk d + uptoBulkAll r
def uptoBulkEntries {H : Type} : List (Lit × DataW H) → Nat
  | [] => 0
  | x :: r => uptoBulkEntry x + uptoBulkEntries r
def uptoBulkEntry {H : Type} : Lit × DataW H → Nat
  | (.string bytes, d) => bytes.length + uptoBulk d + 1
  | (_, d) => uptoBulk d + 1
 end
def uptoSmall : (H : Type) → List (DataW H) → Bool := fun _ ds => decide (uptoBulkAll ds ≤ 1048576)
def OpenSpec.upto (s : _root_.Go.ChangeSpec) : _root_.Go.OpenSpec := { _root_.Go.OpenSpec.ofChange s with cond := some uptoSmall }

/-- 'rosettalaw.UtfReads', WHERE WHAT IT READS IS OF BULK AT MOST 1048576: true; the input reads as it did. -/
def utfReadsUptoRow : OpenClaim := { program := "ytgokmldngnmmhaadoor", sum := "2a42bb05ff4328946cac6d66476649c9c6c41a9dbf913e402e829d874d6d5f44", func := "rosetta/rosettalaw.UtfReads", spec := "utfReads", inPlace := ["internal/bytealg.CountString", "internal/bytealg.IndexByteString", "internal/bytealg.IndexString", "internal/reflectlite.ValueOf", "(internal/reflectlite.Value).Type", "(internal/reflectlite.Value).IsNil", "internal/reflectlite.TypeOf", "(internal/reflectlite.Value).Elem", "(internal/reflectlite.Value).Set"], unfollowed := true, recurses := true, named := ["internal/bytealg.MaxLen", "errors.errorType"], apart := false, laid := [("errors.errorType", laid_errors_errorType)], narrowed := true }
def UtfReadsUptoSaid : Prop := utfReadsUptoRow.holds Tryd.pinned (OpenSpec.upto utfReadsSpec)

/-- 'rosettalaw.OpsApply', WHERE WHAT IT READS IS OF BULK AT MOST 1048576: true; the input reads as it did. -/
def opsApplyUptoRow : OpenClaim := { program := "ytgokmldngnmmhaadoor", sum := "2a42bb05ff4328946cac6d66476649c9c6c41a9dbf913e402e829d874d6d5f44", func := "rosetta/rosettalaw.OpsApply", spec := "opsApply", inPlace := ["internal/bytealg.CountString", "internal/bytealg.IndexByteString", "internal/bytealg.IndexString", "internal/reflectlite.ValueOf", "(internal/reflectlite.Value).Type", "(internal/reflectlite.Value).IsNil", "internal/reflectlite.TypeOf", "(internal/reflectlite.Value).Elem", "(internal/reflectlite.Value).Set", "internal/abi.NoEscape"], unfollowed := true, recurses := true, named := ["internal/bytealg.MaxLen", "errors.errorType"], apart := false, laid := [("errors.errorType", laid_errors_errorType)], narrowed := true }
def OpsApplyUptoSaid : Prop := opsApplyUptoRow.holds Tryd.pinned (OpenSpec.upto opsApplySpec)

/-- 'rosettalaw.ShapePlays', WHERE WHAT IT READS IS OF BULK AT MOST 1048576: true; the input reads as it did. -/
def shapePlaysUptoRow : OpenClaim := { program := "ytgokmldngnmmhaadoor", sum := "2a42bb05ff4328946cac6d66476649c9c6c41a9dbf913e402e829d874d6d5f44", func := "rosetta/rosettalaw.ShapePlays", spec := "shapePlays", inPlace := ["internal/reflectlite.ValueOf", "(internal/reflectlite.Value).Type", "(internal/reflectlite.Value).IsNil", "internal/reflectlite.TypeOf", "(internal/reflectlite.Value).Elem", "(internal/reflectlite.Value).Set", "internal/bytealg.CountString", "internal/bytealg.IndexByteString", "internal/bytealg.IndexString"], unfollowed := true, recurses := true, named := ["errors.errorType", "internal/bytealg.MaxLen"], apart := false, laid := [("errors.errorType", laid_errors_errorType)], narrowed := true }
def ShapePlaysUptoSaid : Prop := shapePlaysUptoRow.holds Tryd.pinned (OpenSpec.upto shapePlaysSpec)

/-- 'rosettalaw.RopeGreat', WHERE WHAT IT READS IS OF BULK AT MOST 1048576: true; the input reads as it did. -/
def ropeGreatUptoRow : OpenClaim := { program := "ytgokmldngnmmhaadoor", sum := "2a42bb05ff4328946cac6d66476649c9c6c41a9dbf913e402e829d874d6d5f44", func := "rosetta/rosettalaw.RopeGreat", spec := "ropeGreat", inPlace := ["internal/reflectlite.ValueOf", "(internal/reflectlite.Value).Type", "(internal/reflectlite.Value).IsNil", "internal/reflectlite.TypeOf", "(internal/reflectlite.Value).Elem", "(internal/reflectlite.Value).Set", "internal/bytealg.CountString", "internal/bytealg.IndexByteString", "internal/bytealg.IndexString", "internal/abi.NoEscape"], unfollowed := true, recurses := true, named := ["errors.errorType", "internal/bytealg.MaxLen"], apart := false, laid := [("errors.errorType", laid_errors_errorType)], narrowed := true }
def RopeGreatUptoSaid : Prop := ropeGreatUptoRow.holds Tryd.pinned (OpenSpec.upto ropeGreatSpec)

/-- 'rosettakeep.OpsMeet', WHERE WHAT IT READS IS OF BULK AT MOST 1048576: true; the input reads as it did. -/
def opsMeetUptoRow : OpenClaim := { program := "ytgokmldngnmmhaadoor", sum := "2a42bb05ff4328946cac6d66476649c9c6c41a9dbf913e402e829d874d6d5f44", func := "rosetta/rosettakeep.OpsMeet", spec := "opsMeet", inPlace := ["internal/reflectlite.ValueOf", "(internal/reflectlite.Value).Type", "(internal/reflectlite.Value).IsNil", "internal/reflectlite.TypeOf", "(internal/reflectlite.Value).Elem", "(internal/reflectlite.Value).Set", "internal/abi.NoEscape"], unfollowed := true, recurses := true, named := ["errors.errorType"], apart := false, laid := [("errors.errorType", laid_errors_errorType)], narrowed := true }
def OpsMeetUptoSaid : Prop := opsMeetUptoRow.holds Tryd.pinned (OpenSpec.upto opsMeetSpec)

/-- 'rosettalaw.BridgeTurns', WHERE WHAT IT READS IS OF BULK AT MOST 1048576: true; the input reads as it did. -/
def bridgeTurnsUptoRow : OpenClaim := { program := "ytgokmldngnmmhaadoor", sum := "2a42bb05ff4328946cac6d66476649c9c6c41a9dbf913e402e829d874d6d5f44", func := "rosetta/rosettalaw.BridgeTurns", spec := "bridgeTurns", inPlace := ["internal/bytealg.CountString", "internal/bytealg.IndexByteString", "internal/bytealg.IndexString", "internal/reflectlite.ValueOf", "(internal/reflectlite.Value).Type", "(internal/reflectlite.Value).IsNil", "internal/reflectlite.TypeOf", "(internal/reflectlite.Value).Elem", "(internal/reflectlite.Value).Set"], unfollowed := true, recurses := true, named := ["internal/bytealg.MaxLen", "errors.errorType"], apart := false, laid := [("errors.errorType", laid_errors_errorType)], narrowed := true }
def BridgeTurnsUptoSaid : Prop := bridgeTurnsUptoRow.holds Tryd.pinned (OpenSpec.upto bridgeTurnsSpec)

/-- 'rosettalaw.PosConverts', WHERE WHAT IT READS IS OF BULK AT MOST 1048576: true; the input reads as it did. -/
def posConvertsUptoRow : OpenClaim := { program := "ytgokmldngnmmhaadoor", sum := "2a42bb05ff4328946cac6d66476649c9c6c41a9dbf913e402e829d874d6d5f44", func := "rosetta/rosettalaw.PosConverts", spec := "posConverts", inPlace := ["internal/bytealg.CountString", "internal/bytealg.IndexByteString", "internal/bytealg.IndexString", "internal/reflectlite.ValueOf", "(internal/reflectlite.Value).Type", "(internal/reflectlite.Value).IsNil", "internal/reflectlite.TypeOf", "(internal/reflectlite.Value).Elem", "(internal/reflectlite.Value).Set"], unfollowed := true, recurses := true, named := ["internal/bytealg.MaxLen", "errors.errorType"], apart := false, laid := [("errors.errorType", laid_errors_errorType)], narrowed := true }
def PosConvertsUptoSaid : Prop := posConvertsUptoRow.holds Tryd.pinned (OpenSpec.upto posConvertsSpec)

/-- 'rosettakeep.OpsAlong', WHERE WHAT IT READS IS OF BULK AT MOST 1048576: true; the input reads as it did. -/
def opsAlongUptoRow : OpenClaim := { program := "ytgokmldngnmmhaadoor", sum := "2a42bb05ff4328946cac6d66476649c9c6c41a9dbf913e402e829d874d6d5f44", func := "rosetta/rosettakeep.OpsAlong", spec := "opsAlong", inPlace := ["internal/reflectlite.ValueOf", "(internal/reflectlite.Value).Type", "(internal/reflectlite.Value).IsNil", "internal/reflectlite.TypeOf", "(internal/reflectlite.Value).Elem", "(internal/reflectlite.Value).Set", "internal/abi.NoEscape"], unfollowed := true, recurses := true, named := ["errors.errorType"], apart := false, laid := [("errors.errorType", laid_errors_errorType)], narrowed := true }
def OpsAlongUptoSaid : Prop := opsAlongUptoRow.holds Tryd.pinned (OpenSpec.upto opsAlongSpec)

/-- 'rosettakeep.ShapeAlike', WHERE WHAT IT READS IS OF BULK AT MOST 1048576: true; the input reads as it did. -/
def shapeAlikeUptoRow : OpenClaim := { program := "ytgokmldngnmmhaadoor", sum := "2a42bb05ff4328946cac6d66476649c9c6c41a9dbf913e402e829d874d6d5f44", func := "rosetta/rosettakeep.ShapeAlike", spec := "shapeAlike", inPlace := ["internal/reflectlite.ValueOf", "(internal/reflectlite.Value).Type", "(internal/reflectlite.Value).IsNil", "internal/reflectlite.TypeOf", "(internal/reflectlite.Value).Elem", "(internal/reflectlite.Value).Set", "internal/abi.NoEscape"], unfollowed := true, recurses := true, named := ["errors.errorType"], apart := false, laid := [("errors.errorType", laid_errors_errorType)], narrowed := true }
def ShapeAlikeUptoSaid : Prop := shapeAlikeUptoRow.holds Tryd.pinned (OpenSpec.upto shapeAlikeSpec)

/-- 'rosettakeep.OpsOne', WHERE WHAT IT READS IS OF BULK AT MOST 1048576: true; the input reads as it did. -/
def opsOneUptoRow : OpenClaim := { program := "ytgokmldngnmmhaadoor", sum := "2a42bb05ff4328946cac6d66476649c9c6c41a9dbf913e402e829d874d6d5f44", func := "rosetta/rosettakeep.OpsOne", spec := "opsOne", inPlace := ["internal/reflectlite.ValueOf", "(internal/reflectlite.Value).Type", "(internal/reflectlite.Value).IsNil", "internal/reflectlite.TypeOf", "(internal/reflectlite.Value).Elem", "(internal/reflectlite.Value).Set", "internal/abi.NoEscape"], unfollowed := true, recurses := true, named := ["errors.errorType"], apart := false, laid := [("errors.errorType", laid_errors_errorType)], narrowed := true }
def OpsOneUptoSaid : Prop := opsOneUptoRow.holds Tryd.pinned (OpenSpec.upto opsOneSpec)

/-- 'rosettalaw.RopePlays', WHERE WHAT IT READS IS OF BULK AT MOST 1048576: true; the input reads as it did. -/
def ropePlaysUptoRow : OpenClaim := { program := "ytgokmldngnmmhaadoor", sum := "2a42bb05ff4328946cac6d66476649c9c6c41a9dbf913e402e829d874d6d5f44", func := "rosetta/rosettalaw.RopePlays", spec := "ropePlays", inPlace := ["internal/bytealg.CountString", "internal/bytealg.IndexByteString", "internal/bytealg.IndexString", "internal/reflectlite.ValueOf", "(internal/reflectlite.Value).Type", "(internal/reflectlite.Value).IsNil", "internal/reflectlite.TypeOf", "(internal/reflectlite.Value).Elem", "(internal/reflectlite.Value).Set", "internal/abi.NoEscape"], unfollowed := true, recurses := true, named := ["internal/bytealg.MaxLen", "errors.errorType"], apart := false, laid := [("errors.errorType", laid_errors_errorType)], narrowed := true }
def RopePlaysUptoSaid : Prop := ropePlaysUptoRow.holds Tryd.pinned (OpenSpec.upto ropePlaysSpec)

end Rows
end Go.Proofs.YtgokmldngnmmhaaDoor
