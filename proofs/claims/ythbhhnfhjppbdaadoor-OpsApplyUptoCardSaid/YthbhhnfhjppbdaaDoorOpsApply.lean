/- OpsApply holds, where what is handed in is of bulk at most 1048576: for every operation and every text the law returns true, and the arguments read as they did. The tied card of that. -/
import Derived.Test.YthbhhnfhjppbdaaDoorOpsApplyW
import Derived.Test.YthbhhnfhjppbdaaDoorPartO
import Derived.Test.YthbhhnfhjppbdaaDoorLaidL
import Derived.Test.YthbhhnfhjppbdaaDoorCards
import Derived.Test.YthbhhnfhjppbdaaDoorTie
import Derived.SevenTiedAt
import Derived.Carry
import Derived.Deep.DeepHandedRow
namespace Go.Proofs.YthbhhnfhjppbdaaDoor
open Go.ChangeShapes Go.WideShapes Go.ChangeAt Go.RowKit
theorem plenB_eq (l : List PT) : plenB l = plen l := by
  induction l with
  | nil => rfl
  | cons p l ih => rw [plenB, plen, ih]
set_option maxRecDepth 100000 in
theorem opsApply_contract (H : Type) (enc : TypeId × Value → H) (W : World) (base : Nat) (args : Array Value) (ds gs : List (DataW H)) (before : List MemPlace)
    (hval0 : ∀ (j : Nat) t v, Tryd.f6.params[j]? = some t → args[j]? = some v → Value.okWide Tryd.prog W .any base t v)
    (hW : DataW.Whole enc Tryd.prog Tryd.f6.params.toList Rows.opsApplySpec.vars false W args.toList ds gs before)
    (hk : Rows.uptoSmall H (ds ++ gs) = true) (hL : laidMetH Tryd.prog [("errors.errorType", Rows.laid_errors_errorType)] W) :
    Calls Tryd.prog 6 args W fun e W' => ∃ v, e = .returned v ∧ Rows.opsApplySpec.post enc Tryd.prog Tryd.f6 false true false false W args v W' := by
  have hval : ∀ (j : Nat) t v, Tryd.f6.params[j]? = some t → args[j]? = some v → Value.okWide Tryd.prog W .any base t v := hval0
  have hW' := hW
  obtain ⟨p, q, hA0, hV, rfl, _, _⟩ := hW
  have hA : DataW.TrodAll enc Tryd.prog W 0 (fun _ => true) true Tryd.f6.params.toList args.toList ds p := hA0
  rw [Tryd.params6] at hA hval
  obtain ⟨v1, v2, d1, d2, p1, p2, rfl, rfl, rfl, h1, h2⟩ := trodAll_two hA
  obtain ⟨rfl, rfl⟩ := trodVars_none hV
  have hg := hdl_of_laid hL
  obtain ⟨n1, l1, hs1, hl1, hin1, hdat1⟩ := open_parts (hval 0 23 v1 rfl rfl) h1
  obtain ⟨s2, rfl, rfl, _, hsl2⟩ := open_str Tryd.underlying9 (hval 1 9 v2 rfl rfl) h2
  have hb1 : plen l1 ≤ 1048576 := by
    rcases hdat1 with rfl | ⟨spare, rfl⟩
    · simp [plen]
    · have := bulk_parts (l := l1) (spare := spare) (by simp) hk
      rw [plenB_eq] at this
      exact this
  have hp1 : ∀ x ∈ l1, x.put.length ≤ 35184372087808 := by
    intro x hx
    have h1 := plenB_mem hx
    rw [plenB_eq] at h1
    omega
  refine (opsApply_walk hg hs1 hp1 (by omega) hsl2).mono fun e W' ⟨he, hb⟩ => ?_
  subst he
  refine ⟨_, rfl, law_post (tb := 4) laidOut ?_ rfl rfl Tryd.underlying4 hW' rfl hb⟩
  intro t ht
  have hm : t ∈ [23, 9] := by
    rw [Tryd.params6] at ht
    simpa using ht
  have hall : ([23, 9].all fun u => Tryd.prog.readableRec u && decide (u < Tryd.prog.types.size)) = true := by kernel_rfl
  have h := List.all_eq_true.1 hall t hm
  rw [Bool.and_eq_true, decide_eq_true_eq] at h
  exact h
theorem opsApply_reads (os : Os) {H : Type} (enc : TypeId × Value → H) : ∃ places, DataW.whole enc Tryd.prog ((laidWorld os).forCall (fun _ _ => 0) ⟨#[], #[.slice none 0 0, .string ⟨#[]⟩], []⟩).memory Tryd.f6.params.toList Rows.opsApplySpec.vars false (#[.slice none 0 0, .string ⟨#[]⟩] : Array Value).toList 8 = some ([.nil, .lit (.string [])], [], places) :=
  ⟨[], by kernel_rfl⟩
set_option maxRecDepth 100000 in
theorem opsApply_lifted (os : Os) (started : os.Started) (H : Type) (enc : TypeId × Value → H) (F : Stop.Interp) :
    ReturnsInHanded {} Tryd.checked os 6 .any ((Rows.OpenSpec.upto Rows.opsApplySpec).preRow enc Tryd.prog Tryd.f6 Rows.opsApplyUptoRow.domain false Rows.opsApplyUptoRow.laid) (((Rows.OpenSpec.upto Rows.opsApplySpec).at F).post enc Tryd.prog Tryd.f6 false true false false) := by
  obtain ⟨places, hx⟩ := opsApply_reads os enc
  refine returnsInHanded_of_row (C := Tryd.checked) (s := Rows.OpenSpec.upto Rows.opsApplySpec) ownK started (by kernel_rfl) Tryd.func6
    (witness_row_at (enc := enc) (C := Tryd.checked) false (laidWorld os) #[.slice none 0 0, .string ⟨#[]⟩] rfl (by kernel_rfl) (by kernel_rfl) (by kernel_rfl)
      (OpenSpec.preRow_of_cond 8 hx (by kernel_rfl) (fun k hk => by cases hk; kernel_rfl) (by kernel_rfl) (laidWorld_met os _))) ?_
  intro W base args ds gs before hval hW _ hcond _ hL _ _
  exact opsApply_contract H enc W base args ds gs before hval hW (hcond _ rfl) hL
theorem opsApplyUpto_row : Rows.OpsApplyUptoSaid :=
  OpenClaim.holds_of_cond 6 Tryd.f6 rfl rfl rfl rfl rfl rfl rfl ⟨rfl, rfl, rfl, rfl, rfl⟩ rfl rfl rfl rfl rfl (by kernel_rfl) Tryd.func6 (by kernel_rfl)
    (of_decide_eq_true (by kernel_rfl)) (by unfold Func.isWrapper; rw [if_neg (of_decide_eq_false (by kernel_rfl))]; exact ⟨rfl, rfl⟩)
    (fun os started H enc _ F => by rw [OpenClaim.pre_eq_preRow]; exact opsApply_lifted os started H enc F)
theorem opsApply_plain (f : FuncId) (fn : Func) (hf : Tryd.pinned.checked.prog.funcNamed "rosetta/rosettalaw.OpsApply" = some f) (hfn : Tryd.pinned.checked.prog.funcs[f]? = some fn) :
    Tryd.prog.looks [] = Tryd.pinned.checked.prog.looks [] ∧ ∀ (j : Nat) t, fn.params[j]? = some t → Tryd.pinned.checked.prog.wantsStandIn t = false := by
  obtain rfl : f = 6 := Option.some.inj ((show Tryd.prog.funcNamed "rosetta/rosettalaw.OpsApply" = some 6 by kernel_rfl).symm.trans hf) |>.symm
  obtain rfl : fn = Tryd.f6 := (Option.some.inj (Tryd.func6.symm.trans hfn)).symm
  refine ⟨rfl, fun j t ht => ?_⟩
  rw [Tryd.params6] at ht
  have hm : t ∈ [23, 9] := by simpa using Array.mem_of_getElem? ht
  have hall : ([23, 9].all fun u => !Tryd.prog.wantsStandIn u) = true := by kernel_rfl
  exact (show Tryd.prog.wantsStandIn t = false by simpa using List.all_eq_true.1 hall t hm)
theorem opsApplyUpto_holds : Rows.OpsApplyUptoCardSaid :=
  Claim7.holds_tied_plain_at .later [] _ _ _ _ opsApplyUpto_row (fun _ h => by cases h) (by kernel_rfl) (fun _ h => by cases h) opsApplyUpto_row_tie rfl ⟨rfl, rfl⟩ (by kernel_rfl) rfl
    (fun f fn hf hfn => ⟨by kernel_rfl, (opsApply_plain f fn hf hfn).2⟩) (by kernel_rfl)
#print axioms opsApplyUpto_holds
end Go.Proofs.YthbhhnfhjppbdaaDoor
