/- UtfBack holds: for every text, every list of runes and every list of halves the law returns true, and the arguments read as they did. No condition. -/
import Derived.Test.YtkiigheleoncfaaRows
import Derived.Test.YtkiigheleoncfaaUtfBackW
import Derived.Test.YtkiigheleoncfaaRowL
import Derived.Test.YtkiigheleoncfaaRowO
namespace Go.Proofs.Ytkiigheleoncfaa
open Go.ChangeShapes Go.WideShapes Go.ChangeAt Go.RowKit
theorem ownK : ownKnob Try.prog.godebug = none := by kernel_rfl
theorem laidOut : laidOutB Try.prog = true := by kernel_rfl
set_option maxRecDepth 100000 in
set_option maxHeartbeats 2000000 in
theorem utfBack_big {s : U.Bs} {l h : List Int} {v1 v2 : Value} {n1 n2 : Nat} (w : World) (hsl : Sl w 1 v1 n1 (i32s l)) (hsh : Sl w 1 v2 n2 (u16s h)) (hb : 500 < s.length ∨ 200 < n1 ∨ 200 < n2) (hm : s.length ≤ maxLen) :
    Calls Try.prog 4 #[.string ⟨s.toArray⟩, v1, v2] w fun e w' => e = .returned (.bool true) ∧ Below w.heap.size w w' := by
  have m1 := hsl.le
  have m2 := hsh.le
  unfold maxLen at hm m1 m2
  obtain ⟨A1, c1, rfl, -⟩ := hsl
  obtain ⟨A2, c2, rfl, -⟩ := hsh
  by_cases h1 : 500 < s.length
  · clear hb
    go_enter Try.func4, Try.ntmps4
    go_wp2_with fail
    go_ret
    exact ⟨rfl, Below.refl _ _⟩
  · by_cases h2 : 200 < n1
    · clear hb
      go_enter Try.func4, Try.ntmps4
      go_wp2_with fail
      go_ret
      exact ⟨rfl, Below.refl _ _⟩
    · have h3 : 200 < n2 := by omega
      clear hb
      go_enter Try.func4, Try.ntmps4
      go_wp2_with fail
      go_ret
      exact ⟨rfl, Below.refl _ _⟩
theorem utfBack_walk (s : U.Bs) (l h : List Int) (v1 v2 : Value) (n1 n2 : Nat) (w : World) (hm : s.length ≤ maxLen) (hin : U.InH h)
    (hsl : Sl w 1 v1 n1 (i32s l)) (hsh : Sl w 1 v2 n2 (u16s h)) :
    Calls Try.prog 4 #[.string ⟨s.toArray⟩, v1, v2] w fun e w' => e = .returned (.bool true) ∧ Below w.heap.size w w' := by
  by_cases hb : 500 < s.length ∨ 200 < n1 ∨ 200 < n2
  · exact utfBack_big w hsl hsh hb hm
  · obtain ⟨rs, rest, hs⟩ := U.sp_exists s
    obtain ⟨lp, lr, hl⟩ := tp_exists l
    obtain ⟨hp, hr, hh⟩ := U.hp_exists h hin
    exact utfBack_x hs hl hh hin w hsl hsh (by omega) (by omega) (by omega)
theorem c32 : Try.prog.cellsOf 21 = 1 := by kernel_rfl
theorem c16 : Try.prog.cellsOf 41 = 1 := by kernel_rfl
set_option maxRecDepth 100000 in
theorem utfBack_lifted (os : Os) (started : os.Started) (H : Type) (enc : TypeId × Value → H) :
    ReturnsInHanded {} Try.checked os 4 .any (Rows.utfBackSpec.pre6 enc Try.prog Try.f4 Rows.utfBackRow.domain false) (Rows.utfBackSpec.post enc Try.prog Try.f4 false true false false) := by
  refine returnsInHanded_of_change (C := Try.checked) ownK started (by kernel_rfl) Try.func4
    (ChangeSpec.witness6 (enc := enc) (C := Try.checked) false ⟨#[], #[.string ⟨#[]⟩, .slice none 0 0, .slice none 0 0], []⟩ 8 (by kernel_rfl) (by kernel_rfl) (by kernel_rfl) (by kernel_rfl)) ?_
  intro W base args ds gs before hval0 hW _ _
  have hval : ∀ (j : Nat) t v, Try.f4.params[j]? = some t → args[j]? = some v → Value.okWide Try.prog W .any base t v := hval0
  have hW' := hW
  obtain ⟨p, q, hA0, hV, rfl, _, _⟩ := hW
  have hA : DataW.TrodAll enc Try.prog W 0 (fun _ => true) true Try.f4.params.toList args.toList ds p := hA0
  rw [Try.params4] at hA hval
  obtain ⟨v0, v1, v2, d0, d1, d2, p0, p1, p2, rfl, rfl, rfl, h0, h1, h2⟩ := trodAll_three hA
  obtain ⟨rfl, rfl⟩ := trodVars_none hV
  obtain ⟨s, rfl, _, _, hsm⟩ := open_str Try.underlying9 (hval 0 9 v0 rfl rfl) h0
  obtain ⟨n1, l, hsl, _, _⟩ := open_sl_ints Try.underlying27 Try.underlying21 c32 (hval 1 27 v1 rfl rfl) h1
  obtain ⟨n2, h, hsh, _, hwf⟩ := open_sl_ints Try.underlying28 Try.underlying41 c16 (hval 2 28 v2 rfl rfl) h2
  have hin : U.InH h := fun a ha => by
    have := hwf a ha
    simp [Lit.wf, IntKind.min, IntKind.max, IntKind.signed, IntKind.bits] at this
    omega
  refine (utfBack_walk s l h v1 v2 n1 n2 W hsm hin hsl hsh).mono fun e W' ⟨he, hb⟩ => ?_
  subst he
  refine ⟨_, rfl, law_post (tb := 4) laidOut ?_ rfl rfl Try.underlying4 hW' rfl hb⟩
  intro t ht
  have hm : t ∈ [9, 27, 28] := by
    rw [Try.params4] at ht
    simpa using ht
  have hall : ([9, 27, 28].all fun u => Try.prog.readableRec u && decide (u < Try.prog.types.size)) = true := by kernel_rfl
  have h := List.all_eq_true.1 hall t hm
  rw [Bool.and_eq_true, decide_eq_true_eq] at h
  exact h
theorem utfBack_holds : Rows.UtfBackSaid :=
  OpenClaim.holds_of_wide 4 Try.f4 rfl rfl rfl rfl rfl rfl rfl ⟨rfl, rfl, rfl, rfl, rfl⟩ rfl rfl rfl rfl rfl (by kernel_rfl) Try.func4 (by kernel_rfl)
    (of_decide_eq_true (by kernel_rfl)) (by unfold Func.isWrapper; rw [if_neg (of_decide_eq_false (by kernel_rfl))]; exact ⟨rfl, rfl⟩)
    (fun os started H enc _ => utfBack_lifted os started H enc)
#print axioms utfBack_holds
end Go.Proofs.Ytkiigheleoncfaa
