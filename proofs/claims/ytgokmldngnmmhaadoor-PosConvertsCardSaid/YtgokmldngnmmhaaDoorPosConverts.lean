/- PosConverts holds: for every text, every two units, every number and every spot the law returns true, and the arguments read as they did. The tied card. -/
import Derived.Test.YtgokmldngnmmhaaDoorMPosConverts48
import Derived.Test.YtgokmldngnmmhaaDoorMPosConverts49
import Derived.Test.YtgokmldngnmmhaaDoorMPosConverts45
import Derived.Test.YtgokmldngnmmhaaDoorMPosConverts46
import Derived.Test.YtgokmldngnmmhaaDoorCards
import Derived.Test.YtgokmldngnmmhaaDoorTie
import Derived.SevenTiedAt
import Derived.Carry
namespace Go.Proofs.YtgokmldngnmmhaaDoor
open Go.ChangeShapes Go.WideShapes Go.ChangeAt Go.RowKit
set_option maxRecDepth 100000 in
theorem posConverts_lifted (os : Os) (started : os.Started) (H : Type) (enc : TypeId × Value → H) :
    ReturnsInHanded {} Tryd.checked os 9 .any (fun w args => (Rows.posConvertsSpec.pre enc Tryd.prog Tryd.f9 [] false w args ∧ laidMetH Tryd.prog [("errors.errorType", Rows.laid_errors_errorType)] w) ∧ sizedMet enc Tryd.prog Tryd.f9 (OpenSpec.ofChange Rows.posConvertsSpec) false w args)
      (Rows.posConvertsSpec.post enc Tryd.prog Tryd.f9 false true false false) := by
  refine returnsInHanded_of_change_and (C := Tryd.checked) (X := fun w _ => laidMetH Tryd.prog [("errors.errorType", Rows.laid_errors_errorType)] w) (fun _ _ _ hh h => h.of_heap hh) ownK started (by kernel_rfl) Tryd.func9
    (ChangeSpec.witness_at (enc := enc) (C := Tryd.checked) (os := os) (X := fun w _ => laidMetH Tryd.prog [("errors.errorType", Rows.laid_errors_errorType)] w) false (laidWorld os) #[.string ⟨#[]⟩, .int .i64 0, .int .i64 0, .int .i64 0, .agg #[.int .i64 0, .int .i64 0]] 8 rfl (by kernel_rfl) (by kernel_rfl) (by kernel_rfl) (by kernel_rfl) (by kernel_rfl) (laidWorld_met os _)) ?_
  intro W base args ds gs before hval0 hW _ _ hL _
  have hval : ∀ (j : Nat) t v, Tryd.f9.params[j]? = some t → args[j]? = some v → Value.okWide Tryd.prog W .any base t v := hval0
  have hW' := hW
  obtain ⟨p, q, hA0, hV, rfl, _, _⟩ := hW
  have hA : DataW.TrodAll enc Tryd.prog W 0 (fun _ => true) true Tryd.f9.params.toList args.toList ds p := hA0
  rw [Tryd.params9] at hA hval
  obtain ⟨v1, t1, d1, e1, p1, q1, z1, rfl, rfl, h1, hA⟩ := trodAll_cons hA
  obtain ⟨v2, t2, d2, e2, p2, q2, rfl, rfl, rfl, h2, hA⟩ := trodAll_cons hA
  obtain ⟨v3, t3, d3, e3, p3, q3, rfl, rfl, rfl, h3, hA⟩ := trodAll_cons hA
  obtain ⟨v4, t4, d4, e4, p4, q4, rfl, rfl, rfl, h4, hA⟩ := trodAll_cons hA
  obtain ⟨v5, t5, d5, e5, p5, q5, rfl, rfl, rfl, h5, hA⟩ := trodAll_cons hA
  obtain ⟨rfl, rfl, rfl⟩ := trodAll_nil hA
  obtain rfl : args = #[v1, v2, v3, v4, v5] := Array.toList_inj.1 z1
  clear z1
  obtain ⟨rfl, rfl⟩ := trodVars_none hV
  have hg := hdl_of_laid hL
  obtain ⟨s1, rfl, rfl, _, hsl1⟩ := open_str Tryd.underlying9 (hval 0 9 v1 rfl rfl) h1
  obtain ⟨m2, rfl, rfl, _, hm2⟩ := open_int Tryd.underlying3 (hval 1 3 v2 rfl rfl) h2
  obtain ⟨m3, rfl, rfl, _, hm3⟩ := open_int Tryd.underlying3 (hval 2 3 v3 rfl rfl) h3
  obtain ⟨m4, rfl, rfl, _, hm4⟩ := open_int Tryd.underlying3 (hval 3 3 v4 rfl rfl) h4
  obtain ⟨sa5, sb5, rfl⟩ := open_spot (hval 4 91 v5 rfl rfl) h5
  refine (posConverts_walk hg hsl1).mono fun e W' ⟨he, hb⟩ => ?_
  subst he
  refine ⟨_, rfl, law_post (tb := 4) laidOut ?_ rfl rfl Tryd.underlying4 hW' rfl hb⟩
  intro t ht
  have hm : t ∈ [9, 3, 3, 3, 91] := by
    rw [Tryd.params9] at ht
    simpa using ht
  have hall : ([9, 3, 3, 3, 91].all fun u => Tryd.prog.readableRec u && decide (u < Tryd.prog.types.size)) = true := by kernel_rfl
  have h := List.all_eq_true.1 hall t hm
  rw [Bool.and_eq_true, decide_eq_true_eq] at h
  exact h
theorem posConverts_row : Rows.PosConvertsSaid :=
  OpenClaim.holds_of_wide 9 Tryd.f9 rfl rfl rfl rfl rfl rfl rfl ⟨rfl, rfl, rfl, rfl, rfl⟩ rfl rfl rfl rfl rfl (by kernel_rfl) Tryd.func9 (by kernel_rfl)
    (of_decide_eq_true (by kernel_rfl)) (by unfold Func.isWrapper; rw [if_neg (of_decide_eq_false (by kernel_rfl))]; exact ⟨rfl, rfl⟩)
    (fun os started H enc _ => posConverts_lifted os started H enc)
theorem posConverts_plain (f : FuncId) (fn : Func) (hf : Tryd.pinned.checked.prog.funcNamed "rosetta/rosettalaw.PosConverts" = some f) (hfn : Tryd.pinned.checked.prog.funcs[f]? = some fn) :
    Tryd.prog.looks [] = Tryd.pinned.checked.prog.looks [] ∧ ∀ (j : Nat) t, fn.params[j]? = some t → Tryd.pinned.checked.prog.wantsStandIn t = false := by
  obtain rfl : f = 9 := Option.some.inj ((show Tryd.prog.funcNamed "rosetta/rosettalaw.PosConverts" = some 9 by kernel_rfl).symm.trans hf) |>.symm
  obtain rfl : fn = Tryd.f9 := (Option.some.inj (Tryd.func9.symm.trans hfn)).symm
  refine ⟨rfl, fun j t ht => ?_⟩
  rw [Tryd.params9] at ht
  have hm : t ∈ [9, 3, 3, 3, 91] := by simpa using Array.mem_of_getElem? ht
  have hall : ([9, 3, 3, 3, 91].all fun u => !Tryd.prog.wantsStandIn u) = true := by kernel_rfl
  exact (show Tryd.prog.wantsStandIn t = false by simpa using List.all_eq_true.1 hall t hm)
theorem posConverts_holds : Rows.PosConvertsCardSaid :=
  Claim7.holds_tied_plain_at .later [] _ _ _ _ posConverts_row (fun _ h => by cases h) (by kernel_rfl) (fun _ h => by cases h) posConverts_row_tie rfl ⟨rfl, rfl⟩ (by kernel_rfl) rfl
    (fun f fn hf hfn => ⟨by kernel_rfl, (posConverts_plain f fn hf hfn).2⟩) (by kernel_rfl)
#print axioms posConverts_holds
end Go.Proofs.YtgokmldngnmmhaaDoor
