/- RopeGreat holds: for every number and every text the law returns true. The tied card. -/
import Derived.Test.YtgokmldngnmmhaaDoorMRopeGreat8
import Derived.Test.YtgokmldngnmmhaaDoorMRopeGreat9
import Derived.Test.YtgokmldngnmmhaaDoorCards
import Derived.Test.YtgokmldngnmmhaaDoorTie
import Derived.SevenTiedAt
import Derived.Carry
namespace Go.Proofs.YtgokmldngnmmhaaDoor
open Go.ChangeShapes Go.WideShapes Go.ChangeAt Go.RowKit
set_option maxRecDepth 100000 in
theorem ropeGreat_lifted (os : Os) (started : os.Started) (H : Type) (enc : TypeId × Value → H) :
    ReturnsInHanded {} Tryd.checked os 6 .any (fun w args => (Rows.ropeGreatSpec.pre enc Tryd.prog Tryd.f6 [] false w args ∧ laidMetH Tryd.prog [("errors.errorType", Rows.laid_errors_errorType)] w) ∧ sizedMet enc Tryd.prog Tryd.f6 (OpenSpec.ofChange Rows.ropeGreatSpec) false w args)
      (Rows.ropeGreatSpec.post enc Tryd.prog Tryd.f6 false true false false) := by
  refine returnsInHanded_of_change_and (C := Tryd.checked) (X := fun w _ => laidMetH Tryd.prog [("errors.errorType", Rows.laid_errors_errorType)] w) (fun _ _ _ hh h => h.of_heap hh) ownK started (by kernel_rfl) Tryd.func6
    (ChangeSpec.witness_at (enc := enc) (C := Tryd.checked) (os := os) (X := fun w _ => laidMetH Tryd.prog [("errors.errorType", Rows.laid_errors_errorType)] w) false (laidWorld os) #[.int .i64 0, .string ⟨#[]⟩] 8 rfl (by kernel_rfl) (by kernel_rfl) (by kernel_rfl) (by kernel_rfl) (by kernel_rfl) (laidWorld_met os _)) ?_
  intro W base args ds gs before hval0 hW _ _ hL _
  have hval : ∀ (j : Nat) t v, Tryd.f6.params[j]? = some t → args[j]? = some v → Value.okWide Tryd.prog W .any base t v := hval0
  have hW' := hW
  obtain ⟨p, q, hA0, hV, rfl, _, _⟩ := hW
  have hA : DataW.TrodAll enc Tryd.prog W 0 (fun _ => true) true Tryd.f6.params.toList args.toList ds p := hA0
  rw [Tryd.params6] at hA hval
  obtain ⟨v1, v2, d1, d2, p1, p2, rfl, rfl, rfl, h1, h2⟩ := trodAll_two hA
  obtain ⟨rfl, rfl⟩ := trodVars_none hV
  have hg := hdl_of_laid hL
  obtain ⟨m1, rfl, rfl, _, hm1⟩ := open_int Tryd.underlying3 (hval 0 3 v1 rfl rfl) h1
  obtain ⟨s2, rfl, rfl, _, hsl2⟩ := open_str Tryd.underlying9 (hval 1 9 v2 rfl rfl) h2
  refine (ropeGreat_walk hg hsl2).mono fun e W' ⟨he, hb⟩ => ?_
  subst he
  refine ⟨_, rfl, law_post (tb := 4) laidOut ?_ rfl rfl Tryd.underlying4 hW' rfl hb⟩
  intro t ht
  have hm : t ∈ [3, 9] := by
    rw [Tryd.params6] at ht
    simpa using ht
  have hall : ([3, 9].all fun u => Tryd.prog.readableRec u && decide (u < Tryd.prog.types.size)) = true := by kernel_rfl
  have h := List.all_eq_true.1 hall t hm
  rw [Bool.and_eq_true, decide_eq_true_eq] at h
  exact h
theorem ropeGreat_row : Rows.RopeGreatSaid :=
  OpenClaim.holds_of_wide 6 Tryd.f6 rfl rfl rfl rfl rfl rfl rfl ⟨rfl, rfl, rfl, rfl, rfl⟩ rfl rfl rfl rfl rfl (by kernel_rfl) Tryd.func6 (by kernel_rfl)
    (of_decide_eq_true (by kernel_rfl)) (by unfold Func.isWrapper; rw [if_neg (of_decide_eq_false (by kernel_rfl))]; exact ⟨rfl, rfl⟩)
    (fun os started H enc _ => ropeGreat_lifted os started H enc)
theorem ropeGreat_plain (f : FuncId) (fn : Func) (hf : Tryd.pinned.checked.prog.funcNamed "rosetta/rosettalaw.RopeGreat" = some f) (hfn : Tryd.pinned.checked.prog.funcs[f]? = some fn) :
    Tryd.prog.looks [] = Tryd.pinned.checked.prog.looks [] ∧ ∀ (j : Nat) t, fn.params[j]? = some t → Tryd.pinned.checked.prog.wantsStandIn t = false := by
  obtain rfl : f = 6 := Option.some.inj ((show Tryd.prog.funcNamed "rosetta/rosettalaw.RopeGreat" = some 6 by kernel_rfl).symm.trans hf) |>.symm
  obtain rfl : fn = Tryd.f6 := (Option.some.inj (Tryd.func6.symm.trans hfn)).symm
  refine ⟨rfl, fun j t ht => ?_⟩
  rw [Tryd.params6] at ht
  have hm : t ∈ [3, 9] := by simpa using Array.mem_of_getElem? ht
  have hall : ([3, 9].all fun u => !Tryd.prog.wantsStandIn u) = true := by kernel_rfl
  exact (show Tryd.prog.wantsStandIn t = false by simpa using List.all_eq_true.1 hall t hm)
theorem ropeGreat_holds : Rows.RopeGreatCardSaid :=
  Claim7.holds_tied_plain_at .later [] _ _ _ _ ropeGreat_row (fun _ h => by cases h) (by kernel_rfl) (fun _ h => by cases h) ropeGreat_row_tie rfl ⟨rfl, rfl⟩ (by kernel_rfl) rfl
    (fun f fn hf hfn => ⟨by kernel_rfl, (ropeGreat_plain f fn hf hfn).2⟩) (by kernel_rfl)
#print axioms ropeGreat_holds
end Go.Proofs.YtgokmldngnmmhaaDoor
