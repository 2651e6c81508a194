/- New. -/
import Derived.Test.YtgokmldngnmmhaaRopeI
namespace Go.Proofs.Ytgokmldngnmmhaa
open Go.RowKit
set_option maxRecDepth 100000
def errno (e : Int) : Value := .iface 51 (.int .i64 e)
/-- What New hands back: a document of the text; or an error. -/
def NewPost (rs : List Int) (rest : U.Bs) (w : World) (e : Ending) (w' : World) : Prop :=
  Below w.heap.size w w' ∧ (rest ≠ [] → ∃ g, e = .returned (.tuple #[.pointer none, atV g]) ∧ AtBlk w' g 3 (bl rs)) ∧
    (rest = [] → 8000 < bl rs → e = .returned (.tuple #[.pointer none, errno 12])) ∧
    (rest = [] → bl rs ≤ 8000 → ∃ p t, e = .returned (.tuple #[.pointer (some ⟨p, 0, none⟩), .nilIface]) ∧ AtR w' p t ∧ Good t ∧ t.runes = rs ∧ w.heap.size ≤ p ∧ ∀ i ∈ t.blocks, w.heap.size ≤ i)
set_option maxHeartbeats 4000000 in
theorem new_calls {s : U.Bs} {rs : List Int} {rest : U.Bs} (h : U.Sp s rs rest) (w : World) (hs : s.length ≤ 1000000) :
    Calls Try.prog 13 #[.string ⟨s.toArray⟩] w (NewPost rs rest w) := by
  have HC := Hd.mk (count_calls h w (by omega))
  have HA : Hd (U.AllR rs) := ⟨h.all⟩
  by_cases hr : rest = []
  · subst hr
    obtain rfl : s = U.encs rs := by have := h.eq; simpa using this
    have hbl : (U.encs rs).length = bl rs := rfl
    by_cases hb : bl rs ≤ 8000
    · have hi : ¬ ((8000 : Int) < (bl rs : Int)) := by omega
      have HB := Hd.mk hb
      clear h
      go_enter Try.func13, Try.ntmps13
      go_wp2_with (first
        | (go_at_call 20; refine HC.out.mono ?_; rintro e w1 ⟨hb1, he, -⟩; obtain rfl := he rfl; have HB1 := Hd.mk hb1; clear hb1 he)
        | (go_at_call 21; refine (lay_calls (p := w1.heap.size + 1) (k := 0) (t := .nil) (rs := rs) (a := []) (b := []) ⟨by have := Blk.new (w1.alloc (.cells #[Value.int .i64 (cnt rs).b, .int .i64 (cnt rs).h, .int .i64 (cnt rs).r, .int .i64 (cnt rs).l] 28)) 50 #[RT.ptr .nil]; rw [World.size_alloc] at this; exact this, trivial, by simp⟩ (by simp) (by intro c hc; simp at hc) rfl rfl HA.out (by have := HB.out; simp; omega)).mono ?_; rintro e w2 ⟨rfl, t, hch, hL⟩; have HCH := Hd.mk hch; have HL := Hd.mk hL; clear hch hL))
      go_ret2
      refine ⟨?_, fun h => absurd rfl h, fun _ h => absurd h (by have := HB.out; omega), fun _ _ => ⟨w1.heap.size + 1, t, rfl, HL.out.at_, ?_, ?_, by have := HB1.out.size; omega, fun i hi => ?_⟩⟩
      · refine (Only.trans (S := fun i => i = w1.heap.size + 1 ∨ i ∈ RT.nil.blocks) ?_ HL.out.only).below (Nat.le_refl _) (fun k hk e => ?_)
        · exact Only.of_below (((HB1.out.alloc HB1.out.size _)).alloc (by simp; have := HB1.out.size; omega) _)
        · have := HB1.out.size
          rcases e with e | e
          · omega
          · simp at e
      · have hc : t.chunks = cutR rs := by simpa using HCH.out
        have hrr : t.runes = rs := by rw [RT.runes_chunks, hc, cutR_flatten]
        exact ⟨HL.out.nodup, by rw [hc]; exact cutR_ne rs, fun c hc' => (cutR_mem (by rw [← hc]; exact hc')).2, by rw [hrr]; exact HA.out, HL.out.bal trivial, by rw [hrr]; exact HB.out⟩
      · rw [RT.runes_chunks, HCH.out]; simp [cutR_flatten]
      · rcases HL.out.sub i hi with h | h
        · simp at h
        · have := HB1.out.size; simp at h; omega
    · have hi : (8000 : Int) < (bl rs : Int) := by omega
      have HB := Hd.mk hb
      clear h
      go_enter Try.func13, Try.ntmps13
      go_wp2_with (go_at_call 20; refine HC.out.mono ?_; rintro e w1 ⟨hb1, he, -⟩; obtain rfl := he rfl; have HB1 := Hd.mk hb1; clear hb1 he)
      go_ret2
      exact ⟨ex_alloc HB1.out _, fun h => absurd rfl h, fun _ _ => rfl, fun _ h => absurd h (by have := HB.out; omega)⟩
  · clear h
    go_enter Try.func13, Try.ntmps13
    go_wp2_with (go_at_call 20; refine HC.out.mono ?_; rintro e w1 ⟨hb1, -, he⟩; obtain ⟨g, rfl, hat⟩ := he hr; have HB1 := Hd.mk hb1; have HAT := Hd.mk hat; clear hb1 he hat)
    go_ret2
    exact ⟨ex_alloc HB1.out _, fun _ => ⟨g, rfl, by have := HAT.out.below (ex_alloc (Below.refl _ _) (.cells #[Value.int .i64 Cn.zero.b, .int .i64 Cn.zero.h, .int .i64 Cn.zero.r, .int .i64 Cn.zero.l] 28)); rw [U.off_full] at this; exact this⟩, fun h => absurd h hr, fun h => absurd h hr⟩
end Go.Proofs.Ytgokmldngnmmhaa
