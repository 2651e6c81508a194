/- BridgeTurns holds, where what is handed in is of bulk at most 1048576: for every text, unit and operation the law returns true, and the arguments read as they did. The tied card of that. -/
import Derived.Test.YtgokmldngnmmhaaDoorMBridgeTurns47
import Derived.Test.YtgokmldngnmmhaaDoorMBridgeTurns42
import Derived.Test.YtgokmldngnmmhaaDoorMBridgeTurns43
import Derived.Test.YtgokmldngnmmhaaDoorCards
import Derived.Test.YtgokmldngnmmhaaDoorTie
import Derived.SevenTiedAt
import Derived.Carry
import Derived.Deep.DeepHandedRow
namespace Go.Proofs.YtgokmldngnmmhaaDoor
open Go.ChangeShapes Go.WideShapes Go.ChangeAt Go.RowKit
theorem plenB_eq (l : List PT) : plenB l = plen l := by
  induction l with
  | nil => rfl
  | cons p l ih => rw [plenB, plen, ih]
set_option maxRecDepth 100000 in
theorem bridgeTurns_contract (H : Type) (enc : TypeId × Value → H) (W : World) (base : Nat) (args : Array Value) (ds gs : List (DataW H)) (before : List MemPlace)
    (hval0 : ∀ (j : Nat) t v, Tryd.f8.params[j]? = some t → args[j]? = some v → Value.okWide Tryd.prog W .any base t v)
    (hW : DataW.Whole enc Tryd.prog Tryd.f8.params.toList Rows.bridgeTurnsSpec.vars false W args.toList ds gs before)
    (hk : Rows.uptoSmall H (ds ++ gs) = true) (hL : laidMetH Tryd.prog [("errors.errorType", Rows.laid_errors_errorType)] W) :
    Calls Tryd.prog 8 args W fun e W' => ∃ v, e = .returned v ∧ Rows.bridgeTurnsSpec.post enc Tryd.prog Tryd.f8 false true false false W args v W' := by
  have hval : ∀ (j : Nat) t v, Tryd.f8.params[j]? = some t → args[j]? = some v → Value.okWide Tryd.prog W .any base t v := hval0
  have hW' := hW
  obtain ⟨p, q, hA0, hV, rfl, _, _⟩ := hW
  have hA : DataW.TrodAll enc Tryd.prog W 0 (fun _ => true) true Tryd.f8.params.toList args.toList ds p := hA0
  rw [Tryd.params8] at hA hval
  obtain ⟨v1, v2, v3, d1, d2, d3, p1, p2, p3, rfl, rfl, rfl, h1, h2, h3⟩ := trodAll_three hA
  obtain ⟨rfl, rfl⟩ := trodVars_none hV
  have hg := hdl_of_laid hL
  obtain ⟨s1, rfl, rfl, _, hsl1⟩ := open_str Tryd.underlying9 (hval 0 9 v1 rfl rfl) h1
  obtain ⟨m2, rfl, rfl, _, hm2⟩ := open_int Tryd.underlying3 (hval 1 3 v2 rfl rfl) h2
  obtain ⟨n3, l3, hs3, hl3, hin3, hdat3⟩ := open_parts (hval 2 52 v3 rfl rfl) h3
  have hb3 : plen l3 ≤ 1048576 := by
    rcases hdat3 with rfl | ⟨spare, rfl⟩
    · simp [plen]
    · have := bulk_parts (l := l3) (spare := spare) (by simp) hk
      rw [plenB_eq] at this
      exact this
  have hp3 : ∀ x ∈ l3, x.put.length ≤ 35184372087808 := by
    intro x hx
    have h9 := plenB_mem hx
    rw [plenB_eq] at h9
    omega
  refine (bridgeTurns_walk hg hs3 hp3 hsl1).mono fun e W' ⟨he, hb⟩ => ?_
  subst he
  refine ⟨_, rfl, law_post (tb := 4) laidOut ?_ rfl rfl Tryd.underlying4 hW' rfl hb⟩
  intro t ht
  have hm : t ∈ [9, 3, 52] := by
    rw [Tryd.params8] at ht
    simpa using ht
  have hall : ([9, 3, 52].all fun u => Tryd.prog.readableRec u && decide (u < Tryd.prog.types.size)) = true := by kernel_rfl
  have h := List.all_eq_true.1 hall t hm
  rw [Bool.and_eq_true, decide_eq_true_eq] at h
  exact h
theorem bridgeTurns_reads (os : Os) {H : Type} (enc : TypeId × Value → H) : ∃ places, DataW.whole enc Tryd.prog ((laidWorld os).forCall (fun _ _ => 0) ⟨#[], #[.string ⟨#[]⟩, .int .i64 0, .slice none 0 0], []⟩).memory Tryd.f8.params.toList Rows.bridgeTurnsSpec.vars false (#[.string ⟨#[]⟩, .int .i64 0, .slice none 0 0] : Array Value).toList 8 = some ([.lit (.string []), .lit (.int .i64 0), .nil], [], places) :=
  ⟨[], by kernel_rfl⟩
set_option maxRecDepth 100000 in
theorem bridgeTurns_lifted (os : Os) (started : os.Started) (H : Type) (enc : TypeId × Value → H) (F : Stop.Interp) :
    ReturnsInHanded {} Tryd.checked os 8 .any ((Rows.OpenSpec.upto Rows.bridgeTurnsSpec).preRow enc Tryd.prog Tryd.f8 Rows.bridgeTurnsUptoRow.domain false Rows.bridgeTurnsUptoRow.laid) (((Rows.OpenSpec.upto Rows.bridgeTurnsSpec).at F).post enc Tryd.prog Tryd.f8 false true false false) := by
  obtain ⟨places, hx⟩ := bridgeTurns_reads os enc
  refine returnsInHanded_of_row (C := Tryd.checked) (s := Rows.OpenSpec.upto Rows.bridgeTurnsSpec) ownK started (by kernel_rfl) Tryd.func8
    (witness_row_at (enc := enc) (C := Tryd.checked) false (laidWorld os) #[.string ⟨#[]⟩, .int .i64 0, .slice none 0 0] rfl (by kernel_rfl) (by kernel_rfl) (by kernel_rfl)
      (OpenSpec.preRow_of_cond 8 hx (by kernel_rfl) (fun k hk => by cases hk; kernel_rfl) (by kernel_rfl) (laidWorld_met os _))) ?_
  intro W base args ds gs before hval hW _ hcond _ hL _ _
  exact bridgeTurns_contract H enc W base args ds gs before hval hW (hcond _ rfl) hL
theorem bridgeTurnsUpto_row : Rows.BridgeTurnsUptoSaid :=
  OpenClaim.holds_of_cond 8 Tryd.f8 rfl rfl rfl rfl rfl rfl rfl ⟨rfl, rfl, rfl, rfl, rfl⟩ rfl rfl rfl rfl rfl (by kernel_rfl) Tryd.func8 (by kernel_rfl)
    (of_decide_eq_true (by kernel_rfl)) (by unfold Func.isWrapper; rw [if_neg (of_decide_eq_false (by kernel_rfl))]; exact ⟨rfl, rfl⟩)
    (fun os started H enc _ F => by rw [OpenClaim.pre_eq_preRow]; exact bridgeTurns_lifted os started H enc F)
theorem bridgeTurns_plain (f : FuncId) (fn : Func) (hf : Tryd.pinned.checked.prog.funcNamed "rosetta/rosettalaw.BridgeTurns" = some f) (hfn : Tryd.pinned.checked.prog.funcs[f]? = some fn) :
    Tryd.prog.looks [] = Tryd.pinned.checked.prog.looks [] ∧ ∀ (j : Nat) t, fn.params[j]? = some t → Tryd.pinned.checked.prog.wantsStandIn t = false := by
  obtain rfl : f = 8 := Option.some.inj ((show Tryd.prog.funcNamed "rosetta/rosettalaw.BridgeTurns" = some 8 by kernel_rfl).symm.trans hf) |>.symm
  obtain rfl : fn = Tryd.f8 := (Option.some.inj (Tryd.func8.symm.trans hfn)).symm
  refine ⟨rfl, fun j t ht => ?_⟩
  rw [Tryd.params8] at ht
  have hm : t ∈ [9, 3, 52] := by simpa using Array.mem_of_getElem? ht
  have hall : ([9, 3, 52].all fun u => !Tryd.prog.wantsStandIn u) = true := by kernel_rfl
  exact (show Tryd.prog.wantsStandIn t = false by simpa using List.all_eq_true.1 hall t hm)
theorem bridgeTurnsUpto_holds : Rows.BridgeTurnsUptoCardSaid :=
  Claim7.holds_tied_plain_at .later [] _ _ _ _ bridgeTurnsUpto_row (fun _ h => by cases h) (by kernel_rfl) (fun _ h => by cases h) bridgeTurnsUpto_row_tie rfl ⟨rfl, rfl⟩ (by kernel_rfl) rfl
    (fun f fn hf hfn => ⟨by kernel_rfl, (bridgeTurns_plain f fn hf hfn).2⟩) (by kernel_rfl)
#print axioms bridgeTurnsUpto_holds
end Go.Proofs.YtgokmldngnmmhaaDoor
