/- DeskPieces holds: for every two texts the law returns true, and the arguments read as they did. The tied card. -/
import Derived.Test.YtckkgdmkfbkaoaaGreatDoorM53
import Derived.Test.YtckkgdmkfbkaoaaGreatDoorCards
import Derived.Test.YtckkgdmkfbkaoaaGreatDoorTie
import Derived.SevenTiedAt
namespace Go.Proofs.YtckkgdmkfbkaoaaGreatDoor
open Go.ChangeShapes Go.WideShapes Go.ChangeAt Go.RowKit
set_option maxRecDepth 100000 in
theorem deskPieces_lifted (os : Os) (started : os.Started) (H : Type) (enc : TypeId × Value → H) (F : Stop.Interp) :
    ReturnsInLeavingWide { calm := true } Tryz.checked os 5 .any (fun w args => (Rows.deskPiecesSpec.pre enc Tryz.prog Tryz.f5 [] false w args ∧ laidMetH Tryz.prog dlaid w) ∧ sizedMet enc Tryz.prog Tryz.f5 (OpenSpec.ofChange Rows.deskPiecesSpec) false w args)
      ((OpenSpec.ofChange Rows.deskPiecesSpec).postWith enc Tryz.prog Tryz.f5 F (outsideKept [.timePasses]) false true false) := by
  refine returnsInLeaving_of_change (C := Tryz.checked) (X := fun w _ => laidMetH Tryz.prog dlaid w) (fun _ _ _ hh h => h.of_heap hh) ownK started (by kernel_rfl) Tryz.func5
    (ChangeSpec.witness_calm (enc := enc) (C := Tryz.checked) (os := os) (X := fun w _ => laidMetH Tryz.prog dlaid w) (dWorld os) #[.string ⟨#[]⟩, .string ⟨#[]⟩] 8 (World.layVars_os _ _ _)
      (World.shaped_of_ZipB (by kernel_rfl) (by kernel_rfl)) (by kernel_rfl) (by kernel_rfl) (by kernel_rfl) (dWorld_met os _)) ?_
  intro W base args ds gs before hsh hval0 hW _ hsz hL
  have hval : ∀ (j : Nat) t v, Tryz.f5.params[j]? = some t → args[j]? = some v → Value.okWide Tryz.prog W .any base t v := hval0
  have hW' := hW
  obtain ⟨p, q, hA0, hV, rfl, _, _⟩ := hW
  have hA : DataW.TrodAll enc Tryz.prog W 0 (fun _ => true) true Tryz.f5.params.toList args.toList ds p := hA0
  rw [Tryz.params5] at hA hval hsz
  obtain ⟨v1, v2, d1, d2, p1, p2, rfl, rfl, rfl, h1, h2⟩ := trodAll_two hA
  obtain ⟨rfl, rfl⟩ := trodVars_none hV
  have hg := glo_of_laid hL (size_of_shaped hsh)
  obtain ⟨s1, rfl, rfl, _, hsl1⟩ := open_str Tryz.underlying9 (hval 0 9 v1 rfl rfl) h1
  obtain ⟨s2, rfl, rfl, _, hsl2⟩ := open_str Tryz.underlying9 (hval 1 9 v2 rfl rfl) h2
  have hwt : s1.length ≤ reachBytes ∧ s2.length ≤ reachBytes := by
    have h3 : ([s1.length, s2.length].all (· ≤ reachBytes)) = true := hsz
    simpa using h3
  have hrb : reachBytes ≤ 4611686018427387903 := by decide
  refine (deskPieces_walk hg (by omega) (by omega)).mono fun e W' ⟨he, hb⟩ => ?_
  subst he
  refine ⟨_, rfl, law_post (tb := 4) laidOut ?_ rfl rfl Tryz.underlying4 hW' rfl hb, hb.os⟩
  intro t ht
  have hm : t ∈ [9, 9] := by
    rw [Tryz.params5] at ht
    simpa using ht
  have hall : ([9, 9].all fun u => Tryz.prog.readableRec u && decide (u < Tryz.prog.types.size)) = true := by kernel_rfl
  have h := List.all_eq_true.1 hall t hm
  rw [Bool.and_eq_true, decide_eq_true_eq] at h
  exact h
theorem deskPieces_named : Tryz.pinned.checked.prog.funcNamed Rows.deskPiecesRow.func = some 5 := by kernel_rfl
theorem deskPieces_inst : Tryz.f5.isInstance Tryz.pinned.checked.prog Rows.deskPiecesRow.origin Rows.deskPiecesRow.targs := of_decide_eq_true (by kernel_rfl)
theorem deskPieces_wrap : Tryz.f5.isWrapper Tryz.pinned.checked.prog Rows.deskPiecesRow.wrapper Rows.deskPiecesRow.mainSum := by unfold Func.isWrapper; rw [if_neg (of_decide_eq_false (by kernel_rfl))]; exact ⟨rfl, rfl⟩
theorem deskPieces_form (os : Os) (started : os.Started) (H : Type) (enc : TypeId × Value → H) (F : Stop.Interp) :
    ReturnsInLeavingWide Rows.deskPiecesRow.assume Tryz.pinned.checked os 5 .any (Rows.deskPiecesRow.pre enc Tryz.pinned.checked.prog Tryz.f5 (OpenSpec.ofChange Rows.deskPiecesSpec)) ((OpenSpec.ofChange Rows.deskPiecesSpec).postWith enc Tryz.pinned.checked.prog Tryz.f5 F (outsideKept [.timePasses]) Rows.deskPiecesRow.apart Rows.deskPiecesRow.fresh Rows.deskPiecesRow.handsOn) := deskPieces_lifted os started H enc F
theorem deskPieces_row : Rows.DeskPiecesSaid :=
  OpenClaim.holds_of_wide_leaving_time 5 Tryz.f5 rfl rfl rfl rfl rfl rfl rfl ⟨rfl, rfl, rfl, rfl, rfl⟩ rfl rfl rfl rfl rfl deskPieces_named Tryz.func5 deskPieces_closed deskPieces_inst deskPieces_wrap
    (fun os started H enc _ F => deskPieces_form os started H enc F)
/-- A tied card that says 'goes'. -/
theorem holds_tied_goes (Lk : Looks) {p : Pinned} {s : OpenSpec} {c : OpenClaim} (kinds : List LaidKind) (tests : Bool) (har : Bool × String) (lk : Bool)
    (hc : c.holds p s) (hw : c.wfByText s = true) (htie : c.laidByTextAt Lk p kinds tests)
    (hst : c.start = .entering) (hnb : c.noBlocks = false ∧ c.again = false) (hm : p.checked.prog.mainIs = some (har.1, har.2.toList)) (hn : (!har.1 && har.2.isEmpty && !lk) = false)
    (hl : ∀ f fn, p.checked.prog.funcNamed c.func = some f → p.checked.prog.funcs[f]? = some fn → lk = p.checked.prog.looks [] ∧ ∀ (j : Nat) t, fn.params[j]? = some t → p.checked.prog.wantsStandIn t = false)
    (hg : true = c.goesBy p.checked.prog) :
    Claim7.holds p (.plain s) { stood := { row := c, standIns := [], harness := har, looks := lk }, kinds := [], alts := [], goes := true, laidByText := true, laidKinds := kinds, laidTests := tests, laidLooks := Lk } := by
  have h6 : ∀ r : OpenClaim, Claim7.isSixth { stood := { row := r, standIns := [], harness := har, looks := lk }, kinds := [] } = false := fun r => by simpa [Claim7.isSixth] using hn
  refine ⟨Claim7.tied_new_at Lk kinds tests (Claim7.new_of_sixth hc har lk hst hnb hm (h6 c) hl) hw, fun D hD => (by cases hD), htie, (fun h => by cases h), hg⟩
theorem deskPieces_plain (f : FuncId) (fn : Func) (hf : Tryz.pinned.checked.prog.funcNamed "rosetta/rosettakeep.DeskPieces" = some f) (hfn : Tryz.pinned.checked.prog.funcs[f]? = some fn) :
    Tryz.prog.looks [] = Tryz.pinned.checked.prog.looks [] ∧ ∀ (j : Nat) t, fn.params[j]? = some t → Tryz.pinned.checked.prog.wantsStandIn t = false := by
  obtain rfl : f = 5 := Option.some.inj ((show Tryz.prog.funcNamed "rosetta/rosettakeep.DeskPieces" = some 5 by kernel_rfl).symm.trans hf) |>.symm
  obtain rfl : fn = Tryz.f5 := (Option.some.inj (Tryz.func5.symm.trans hfn)).symm
  refine ⟨rfl, fun j t ht => ?_⟩
  rw [Tryz.params5] at ht
  have hm : t ∈ [9, 9] := by simpa using Array.mem_of_getElem? ht
  have hall : ([9, 9].all fun u => !Tryz.prog.wantsStandIn u) = true := by kernel_rfl
  exact (show Tryz.prog.wantsStandIn t = false by simpa using List.all_eq_true.1 hall t hm)
theorem deskPieces_holds : Rows.DeskPiecesCardSaid :=
  holds_tied_goes .later _ _ _ _ deskPieces_row (by kernel_rfl) deskPieces_row_tie rfl ⟨rfl, rfl⟩ (by kernel_rfl) rfl
    (fun f fn hf hfn => ⟨by kernel_rfl, (deskPieces_plain f fn hf hfn).2⟩) (by kernel_rfl)
#print axioms deskPieces_holds
end Go.Proofs.YtckkgdmkfbkaoaaGreatDoor

