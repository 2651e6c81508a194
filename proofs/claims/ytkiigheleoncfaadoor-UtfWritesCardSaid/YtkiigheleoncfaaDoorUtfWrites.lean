/- UtfWrites holds: for every list of runes and every list of halves the law returns true, and the arguments read as they did. -/
import Derived.Test.YtkiigheleoncfaaDoorUtfWritesW
import Derived.Test.YtkiigheleoncfaaDoorLaidL
namespace Go.Proofs.YtkiigheleoncfaaDoor
open Go.ChangeShapes Go.WideShapes Go.ChangeAt Go.RowKit
set_option maxRecDepth 100000 in
set_option maxHeartbeats 2000000 in
theorem utfWrites_big {l h : List Int} {v1 v2 : Value} {n1 n2 : Nat} (w : World) (hsl : Sl w 1 v1 n1 (i32s l)) (hsh : Sl w 1 v2 n2 (u16s h)) (hb : 300 < n1 ∨ 300 < n2) :
    Calls Tryd.prog 3 #[v1, v2] w fun e w' => e = .returned (.bool true) ∧ Below w.heap.size w w' := by
  have m1 := hsl.le
  have m2 := hsh.le
  unfold maxLen at m1 m2
  obtain ⟨A1, c1, rfl, -⟩ := hsl
  obtain ⟨A2, c2, rfl, -⟩ := hsh
  by_cases h2 : 300 < n1
  · clear hb
    go_enter Tryd.func3, Tryd.ntmps3
    go_wp2_with fail
    go_ret
    exact ⟨rfl, Below.refl _ _⟩
  · have h3 : 300 < n2 := by omega
    clear hb
    go_enter Tryd.func3, Tryd.ntmps3
    go_wp2_with fail
    go_ret
    exact ⟨rfl, Below.refl _ _⟩
theorem utfWrites_walk (l h : List Int) (v1 v2 : Value) (n1 n2 : Nat) (w : World) (hg : Hdl w) (hin : U.InH h) (hil : ∀ r ∈ l, -2147483648 ≤ r ∧ r ≤ 2147483647)
    (hsl : Sl w 1 v1 n1 (i32s l)) (hsh : Sl w 1 v2 n2 (u16s h)) :
    Calls Tryd.prog 3 #[v1, v2] w fun e w' => e = .returned (.bool true) ∧ Below w.heap.size w w' := by
  by_cases hb : 300 < n1 ∨ 300 < n2
  · exact utfWrites_big w hsl hsh hb
  · obtain ⟨lp, lr, hl⟩ := tp_exists l
    obtain ⟨hp, hr, hh⟩ := U.hp_exists h hin
    exact utfWrites_x hl hh hin hil w hg hsl hsh (by omega) (by omega)
set_option maxRecDepth 100000 in
theorem utfWrites_lifted (os : Os) (started : os.Started) (H : Type) (enc : TypeId × Value → H) :
    ReturnsInHanded {} Tryd.checked os 3 .any (fun w args => (Rows.utfWritesSpec.pre enc Tryd.prog Tryd.f3 [] false w args ∧ laidMetH Tryd.prog [("errors.errorType", Rows.laid_errors_errorType)] w) ∧ sizedMet enc Tryd.prog Tryd.f3 (OpenSpec.ofChange Rows.utfWritesSpec) false w args)
      (Rows.utfWritesSpec.post enc Tryd.prog Tryd.f3 false true false false) := by
  refine returnsInHanded_of_change_and (C := Tryd.checked) (X := fun w _ => laidMetH Tryd.prog [("errors.errorType", Rows.laid_errors_errorType)] w) (fun _ _ _ hh h => h.of_heap hh) ownK started (by kernel_rfl) Tryd.func3
    (ChangeSpec.witness_at (enc := enc) (C := Tryd.checked) (os := os) (X := fun w _ => laidMetH Tryd.prog [("errors.errorType", Rows.laid_errors_errorType)] w) false (laidWorld os) #[.slice none 0 0, .slice none 0 0] 8 rfl (by kernel_rfl) (by kernel_rfl) (by kernel_rfl) (by kernel_rfl) (by kernel_rfl) (laidWorld_met os _)) ?_
  intro W base args ds gs before hval0 hW _ _ hL _
  have hval : ∀ (j : Nat) t v, Tryd.f3.params[j]? = some t → args[j]? = some v → Value.okWide Tryd.prog W .any base t v := hval0
  have hW' := hW
  obtain ⟨p, q, hA0, hV, rfl, _, _⟩ := hW
  have hA : DataW.TrodAll enc Tryd.prog W 0 (fun _ => true) true Tryd.f3.params.toList args.toList ds p := hA0
  rw [Tryd.params3] at hA hval
  obtain ⟨v1, v2, d1, d2, p1, p2, rfl, rfl, rfl, h1, h2⟩ := trodAll_two hA
  obtain ⟨rfl, rfl⟩ := trodVars_none hV
  have hg := hdl_of_laid hL
  obtain ⟨n1, l, hsl, _, hwl⟩ := open_sl_ints Tryd.underlying22 Tryd.underlying21 c32 (hval 0 22 v1 rfl rfl) h1
  obtain ⟨n2, h, hsh, _, hwf⟩ := open_sl_ints Tryd.underlying23 Tryd.underlying105 c16 (hval 1 23 v2 rfl rfl) h2
  have hin : U.InH h := fun a ha => by
    have := hwf a ha
    simp [Lit.wf, IntKind.min, IntKind.max, IntKind.signed, IntKind.bits] at this
    omega
  have hil : ∀ r ∈ l, -2147483648 ≤ r ∧ r ≤ 2147483647 := fun a ha => by
    have := hwl a ha
    simp [Lit.wf, IntKind.min, IntKind.max, IntKind.signed, IntKind.bits] at this
    omega
  refine (utfWrites_walk l h v1 v2 n1 n2 W hg hin hil hsl hsh).mono fun e W' ⟨he, hb⟩ => ?_
  subst he
  refine ⟨_, rfl, law_post (tb := 4) laidOut ?_ rfl rfl Tryd.underlying4 hW' rfl hb⟩
  intro t ht
  have hm : t ∈ [22, 23] := by
    rw [Tryd.params3] at ht
    simpa using ht
  have hall : ([22, 23].all fun u => Tryd.prog.readableRec u && decide (u < Tryd.prog.types.size)) = true := by kernel_rfl
  have h := List.all_eq_true.1 hall t hm
  rw [Bool.and_eq_true, decide_eq_true_eq] at h
  exact h
theorem utfWrites_row : Rows.UtfWritesSaid :=
  OpenClaim.holds_of_wide 3 Tryd.f3 rfl rfl rfl rfl rfl rfl rfl ⟨rfl, rfl, rfl, rfl, rfl⟩ rfl rfl rfl rfl rfl (by kernel_rfl) Tryd.func3 (by kernel_rfl)
    (of_decide_eq_true (by kernel_rfl)) (by unfold Func.isWrapper; rw [if_neg (of_decide_eq_false (by kernel_rfl))]; exact ⟨rfl, rfl⟩)
    (fun os started H enc _ => utfWrites_lifted os started H enc)
end Go.Proofs.YtkiigheleoncfaaDoor
