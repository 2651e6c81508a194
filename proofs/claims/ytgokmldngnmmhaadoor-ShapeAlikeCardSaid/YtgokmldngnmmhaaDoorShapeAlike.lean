/- ShapeAlike holds: for every unit, every text and every operation, raw or fitted, the law returns true, and the arguments read as they did. The tied card. -/
import Derived.Test.YtgokmldngnmmhaaDoorMShapeAlike49
import Derived.Test.YtgokmldngnmmhaaDoorMShapeAlike41
import Derived.Test.YtgokmldngnmmhaaDoorMShapeAlike42
import Derived.Test.YtgokmldngnmmhaaDoorCards
import Derived.Test.YtgokmldngnmmhaaDoorTie
import Derived.SevenTiedAt
import Derived.Carry
namespace Go.Proofs.YtgokmldngnmmhaaDoor
open Go.ChangeShapes Go.WideShapes Go.ChangeAt Go.RowKit
set_option maxRecDepth 100000 in
theorem shapeAlike_lifted (os : Os) (started : os.Started) (H : Type) (enc : TypeId × Value → H) :
    ReturnsInHanded {} Tryd.checked os 11 .any (fun w args => (Rows.shapeAlikeSpec.pre enc Tryd.prog Tryd.f11 [] false w args ∧ laidMetH Tryd.prog [("errors.errorType", Rows.laid_errors_errorType)] w) ∧ sizedMet enc Tryd.prog Tryd.f11 (OpenSpec.ofChange Rows.shapeAlikeSpec) false w args)
      (Rows.shapeAlikeSpec.post enc Tryd.prog Tryd.f11 false true false false) := by
  refine returnsInHanded_of_change_and (C := Tryd.checked) (X := fun w _ => laidMetH Tryd.prog [("errors.errorType", Rows.laid_errors_errorType)] w) (fun _ _ _ hh h => h.of_heap hh) ownK started (by kernel_rfl) Tryd.func11
    (ChangeSpec.witness_at (enc := enc) (C := Tryd.checked) (os := os) (X := fun w _ => laidMetH Tryd.prog [("errors.errorType", Rows.laid_errors_errorType)] w) false (laidWorld os) #[.int .i64 0, .string ⟨#[]⟩, .slice none 0 0, .bool false] 8 rfl (by kernel_rfl) (by kernel_rfl) (by kernel_rfl) (by kernel_rfl) (by kernel_rfl) (laidWorld_met os _)) ?_
  intro W base args ds gs before hval0 hW _ _ hL _
  have hval : ∀ (j : Nat) t v, Tryd.f11.params[j]? = some t → args[j]? = some v → Value.okWide Tryd.prog W .any base t v := hval0
  have hW' := hW
  obtain ⟨p, q, hA0, hV, rfl, _, _⟩ := hW
  have hA : DataW.TrodAll enc Tryd.prog W 0 (fun _ => true) true Tryd.f11.params.toList args.toList ds p := hA0
  rw [Tryd.params11] at hA hval
  obtain ⟨v1, t1, d1, e1, p1, q1, z1, rfl, rfl, h1, hA⟩ := trodAll_cons hA
  obtain ⟨v2, t2, d2, e2, p2, q2, rfl, rfl, rfl, h2, hA⟩ := trodAll_cons hA
  obtain ⟨v3, t3, d3, e3, p3, q3, rfl, rfl, rfl, h3, hA⟩ := trodAll_cons hA
  obtain ⟨v4, t4, d4, e4, p4, q4, rfl, rfl, rfl, h4, hA⟩ := trodAll_cons hA
  obtain ⟨rfl, rfl, rfl⟩ := trodAll_nil hA
  obtain rfl : args = #[v1, v2, v3, v4] := Array.toList_inj.1 z1
  clear z1
  obtain ⟨rfl, rfl⟩ := trodVars_none hV
  have hg := hdl_of_laid hL
  obtain ⟨m1, rfl, rfl, _, hm1⟩ := open_int Tryd.underlying3 (hval 0 3 v1 rfl rfl) h1
  obtain ⟨s2, rfl, rfl, _, hsl2⟩ := open_str Tryd.underlying9 (hval 1 9 v2 rfl rfl) h2
  obtain ⟨n3, l3, hs3, hl3, hin3, hdat3⟩ := open_parts (hval 2 52 v3 rfl rfl) h3
  obtain ⟨b4, rfl, rfl, _⟩ := open_bool Tryd.underlying4 (hval 3 4 v4 rfl rfl) h4
  refine (shapeAlike_walk hg hs3 hsl2).mono fun e W' ⟨he, hb⟩ => ?_
  subst he
  refine ⟨_, rfl, law_post (tb := 4) laidOut ?_ rfl rfl Tryd.underlying4 hW' rfl hb⟩
  intro t ht
  have hm : t ∈ [3, 9, 52, 4] := by
    rw [Tryd.params11] at ht
    simpa using ht
  have hall : ([3, 9, 52, 4].all fun u => Tryd.prog.readableRec u && decide (u < Tryd.prog.types.size)) = true := by kernel_rfl
  have h := List.all_eq_true.1 hall t hm
  rw [Bool.and_eq_true, decide_eq_true_eq] at h
  exact h
theorem shapeAlike_row : Rows.ShapeAlikeSaid :=
  OpenClaim.holds_of_wide 11 Tryd.f11 rfl rfl rfl rfl rfl rfl rfl ⟨rfl, rfl, rfl, rfl, rfl⟩ rfl rfl rfl rfl rfl (by kernel_rfl) Tryd.func11 (by kernel_rfl)
    (of_decide_eq_true (by kernel_rfl)) (by unfold Func.isWrapper; rw [if_neg (of_decide_eq_false (by kernel_rfl))]; exact ⟨rfl, rfl⟩)
    (fun os started H enc _ => shapeAlike_lifted os started H enc)
theorem shapeAlike_plain (f : FuncId) (fn : Func) (hf : Tryd.pinned.checked.prog.funcNamed "rosetta/rosettakeep.ShapeAlike" = some f) (hfn : Tryd.pinned.checked.prog.funcs[f]? = some fn) :
    Tryd.prog.looks [] = Tryd.pinned.checked.prog.looks [] ∧ ∀ (j : Nat) t, fn.params[j]? = some t → Tryd.pinned.checked.prog.wantsStandIn t = false := by
  obtain rfl : f = 11 := Option.some.inj ((show Tryd.prog.funcNamed "rosetta/rosettakeep.ShapeAlike" = some 11 by kernel_rfl).symm.trans hf) |>.symm
  obtain rfl : fn = Tryd.f11 := (Option.some.inj (Tryd.func11.symm.trans hfn)).symm
  refine ⟨rfl, fun j t ht => ?_⟩
  rw [Tryd.params11] at ht
  have hm : t ∈ [3, 9, 52, 4] := by simpa using Array.mem_of_getElem? ht
  have hall : ([3, 9, 52, 4].all fun u => !Tryd.prog.wantsStandIn u) = true := by kernel_rfl
  exact (show Tryd.prog.wantsStandIn t = false by simpa using List.all_eq_true.1 hall t hm)
theorem shapeAlike_holds : Rows.ShapeAlikeCardSaid :=
  Claim7.holds_tied_plain_at .later [] _ _ _ _ shapeAlike_row (fun _ h => by cases h) (by kernel_rfl) (fun _ h => by cases h) shapeAlike_row_tie rfl ⟨rfl, rfl⟩ (by kernel_rfl) rfl
    (fun f fn hf hfn => ⟨by kernel_rfl, (shapeAlike_plain f fn hf hfn).2⟩) (by kernel_rfl)
#print axioms shapeAlike_holds
end Go.Proofs.YtgokmldngnmmhaaDoor
