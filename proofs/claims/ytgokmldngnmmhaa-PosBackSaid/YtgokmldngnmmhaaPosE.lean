/- The law PosBack's helpers: pick, document, laid. -/
import Derived.Test.YtgokmldngnmmhaaPosD
import Derived.Test.YtgokmldngnmmhaaRopeT
import Derived.Test.YtgokmldngnmmhaaRopeK
namespace Go.Proofs.Ytgokmldngnmmhaa
open Go.RowKit Go.Sort
set_option maxRecDepth 100000
theorem pick_calls (a n : Int) (hn : 0 < n ∧ n ≤ 1000000) (w : World) : Calls Try.prog 6 #[.int .i64 a, .int .i64 n] w fun e w' => ∃ k : Int, e = .returned (.int .i64 k) ∧ 0 ≤ k ∧ k < n ∧ w' = w := by
  obtain ⟨h1, h2⟩ := hn
  go_enter Try.func6, Try.ntmps6
  have hm : 0 ≤ IntKind.u64.wrap a := by unfold IntKind.wrap; simp [IntKind.signed, IntKind.bits]; omega
  have h3 : 0 ≤ IntKind.u64.wrap a % n := Int.emod_nonneg _ (by omega)
  have h4 : IntKind.u64.wrap a % n < n := Int.emod_lt_of_pos _ h1
  go_wp2_with fail
  go_ret
  exact ⟨_, rfl, h3, h4, rfl⟩
/-- What document hands back. -/
def DocPost (s : U.Bs) (w : World) (e : Ending) (w' : World) : Prop :=
  Below w.heap.size w w' ∧ (e = .returned (.pointer none) ∨ ∃ p t, e = .returned (.pointer (some ⟨p, 0, none⟩)) ∧ AtR w' p t ∧ Good t ∧ U.encs t.runes = s)
set_option maxHeartbeats 2000000 in
theorem document_calls {s : U.Bs} (w : World) (hsm : s.length ≤ maxLen) : Calls Try.prog 5 #[.string ⟨s.toArray⟩] w (DocPost s w) := by
  unfold maxLen at hsm
  by_cases hs : 1500 < s.length
  · have hi : (1500 : Int) < (s.length : Int) := by omega
    go_enter Try.func5, Try.ntmps5
    go_wp2_with fail
    go_ret
    exact ⟨Below.refl _ _, .inl rfl⟩
  · have hi : ¬ ((1500 : Int) < (s.length : Int)) := by omega
    obtain ⟨rs, rest, hsp⟩ := U.sp_exists s
    have HSP := Hd.mk hsp
    have HN := Hd.mk (new_calls hsp w (by omega))
    clear hsp
    go_enter Try.func5, Try.ntmps5
    go_wp2_with fail
    refine HN.out.mono ?_
    rintro e w1 ⟨hb, h1, h2, h3⟩
    have HB := Hd.mk hb
    by_cases hr : rest = []
    · have hbl : bl rs ≤ 8000 := by have := HSP.out.eq; rw [hr, List.append_nil] at this; unfold bl; rw [← this]; omega
      obtain ⟨p, t, rfl, hat, hg, hrr, -, -⟩ := h3 hr hbl
      have HR := Hd.mk hat
      have HG := Hd.mk hg
      have HE : Hd (U.encs t.runes = s) := ⟨by rw [hrr]; have := HSP.out.eq; rw [hr, List.append_nil] at this; exact this.symm⟩
      clear hb h1 h2 h3 hr hat hg hrr
      go_wp2_with fail
      go_ret
      exact ⟨HB.out, .inr ⟨p, t, rfl, HR.out, HG.out, HE.out⟩⟩
    · obtain ⟨g, rfl, -⟩ := h1 hr
      clear hb h1 h2 h3 hr
      go_wp2_with fail
      go_ret
      exact ⟨HB.out, .inl rfl⟩
theorem encs_abc : U.encs [97, 98, 99] = [97, 98, 99] := by decide
theorem encs_xy : U.encs [120, 121] = [120, 121] := by decide
theorem encs_axyc : U.encs [97, 120, 121, 99] = [97, 120, 121, 99] := by decide
theorem allr_abc : U.AllR [97, 98, 99] := by intro r hr; simp at hr; rcases hr with rfl | rfl | rfl <;> decide
theorem allr_xy : U.AllR [120, 121] := by intro r hr; simp at hr; rcases hr with rfl | rfl <;> decide
attribute [local go_sem] Cn.v_eq
set_option maxHeartbeats 4000000 in
theorem laid_calls (w : World) : Calls Try.prog 4 #[] w fun e w' => e = .returned (.bool true) ∧ Below w.heap.size w w' := by
  have HN := Hd.mk (new_calls (U.sp_encs allr_abc) w (by rw [encs_abc]; decide))
  rw [encs_abc] at HN
  go_enter Try.func4, Try.ntmps4
  go_wp2_with fail
  refine HN.out.mono ?_
  rintro e w1 ⟨hb, -, -, h3⟩
  obtain ⟨p, t, rfl, hat, hg, hrr, hp1, hp2⟩ := h3 rfl (by decide)
  have HB := Hd.mk hb
  have HSP := Hd.mk (splice_ok (P := [97]) (D := [98]) (Q := [99]) (prs := [120, 121]) hat hg hrr allr_xy (by decide))
  rw [encs_xy, show ((bl [97] : Nat) : Int) = 1 from rfl, show ((bl [98] : Nat) : Int) = 1 from rfl] at HSP
  have HBL := Hd.mk (And.intro hp1 hp2)
  clear hb h3 hat hg hrr hp1 hp2
  go_wp2_with fail
  refine HSP.out.mono ?_
  rintro e w2 ⟨rfl, t2, hr2, hg2, hL⟩
  have hr2' : t2.runes = [97, 120, 121, 99] := hr2
  have HR2 := Hd.mk hr2'
  have HG2 := Hd.mk hg2
  have HL := Hd.mk hL
  have HB2 : Hd (Below w.heap.size w w2) := ⟨HB.out.trans (hL.only.below HB.out.size (fun k hk e => by
    rcases e with rfl | e
    · have := HBL.out.1; omega
    · have := HBL.out.2 k e; omega))⟩
  clear hr2 hr2' hg2 hL
  go_wp2_with fail
  refine (ahead_calls (u := 3) (at_ := 3) HL.out.at_ HG2.out).mono ?_
  rintro e w3 ⟨hb3, c, er, rfl, hr3⟩
  rw [HR2.out] at hr3
  have hpl : Pl 3 3 [97, 120, 121, 99] (cnt [97, 120, 121]) := ⟨[97, 120, 121], [99], rfl, by decide, rfl⟩
  obtain ⟨rfl, rfl⟩ : er = .nilIface ∧ c = cnt [97, 120, 121] := by
    rcases ahead_cases hr3 with ⟨e, hp, -⟩ | ⟨k, -, -, -, hno⟩
    · exact ⟨e, hp.unique (by decide) hpl⟩
    · exact absurd ⟨hpl, by decide⟩ (hno _)
  have HB3 := Hd.mk (bstep HB2.out hb3)
  have HA3 := Hd.mk (HL.out.at_.below hb3)
  have HCB : Hd ((cnt [97, 120, 121]).b = 3) := ⟨by decide⟩
  generalize cnt [97, 120, 121] = c at *
  have hc3 : CnBlk (w3.alloc (.cells #[.int .i64 c.b, .int .i64 c.h, .int .i64 c.r, .int .i64 c.l] 28)) w3.heap.size c := heap_alloc_new w3 _
  have HC3 := Hd.mk hc3
  clear hb3 hr3 hpl hc3
  go_wp2_with (go_at_call 15; refine (text_calls (HA3.out.below (ex_alloc (Below.refl _ _) _)) (by rw [HR2.out]; decide)).mono ?_; rw [HR2.out, encs_axyc]; rintro e w4 ⟨rfl, hb4⟩; have HB4 := Hd.mk (bstep (ex_alloc HB3.out _) hb4); have hc4 := HC3.out.below hb4 HC3.out.lt; obtain ⟨q0, -⟩ := hc4.cells; have ql := hc4.lt; rw [HCB.out] at q0; clear hb4 hc4)
  go_ret
  exact ⟨rfl, HB4.out⟩
end Go.Proofs.Ytgokmldngnmmhaa
