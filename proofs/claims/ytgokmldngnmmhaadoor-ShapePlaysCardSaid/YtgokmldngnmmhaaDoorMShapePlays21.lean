/- ref.Edges. -/
import Derived.Test.YtgokmldngnmmhaaDoorMShapePlays18
import Derived.Test.YtgokmldngnmmhaaDoorMShapePlays1
namespace Go.Proofs.YtgokmldngnmmhaaDoor
open Go.RowKit
set_option maxRecDepth 100000
abbrev Cn.cells (x : Cn) : List Value := [.int .i64 x.b, .int .i64 x.h, .int .i64 x.r, .int .i64 x.l]
def cnv (l : List Cn) : List Value := l.flatMap Cn.cells
theorem cnv_append (a b : List Cn) : cnv (a ++ b) = cnv a ++ cnv b := by unfold cnv; rw [List.flatMap_append]
theorem cnv_one (x : Cn) : cnv [x] = x.cells := by simp [cnv]
theorem cnv_length (l : List Cn) : (cnv l).length = l.length * 4 := by
  unfold cnv
  induction l with
  | nil => rfl
  | cons p l ih => rw [List.flatMap_cons, List.length_append, ih]; simp; omega
/-- The counts ahead of each rune, and of all. -/
def edgs (rs : List Int) : Nat → List Cn
  | 0 => [Cn.zero]
  | k + 1 => edgs rs k ++ [cnt (rs.take (k + 1))]
theorem edgs_length (rs : List Int) (k : Nat) : (edgs rs k).length = k + 1 := by
  induction k with
  | zero => rfl
  | succ k ih => rw [edgs, List.length_append, ih]; rfl
theorem edgs_at (rs : List Int) {k j : Nat} (h : j ≤ k) : (edgs rs k)[j]? = some (cnt (rs.take j)) := by
  induction k with
  | zero =>
    obtain rfl : j = 0 := by omega
    rfl
  | succ k ih =>
    rw [edgs]
    by_cases hj : j ≤ k
    · rw [List.getElem?_append_left (by rw [edgs_length]; omega)]; exact ih hj
    · obtain rfl : j = k + 1 := by omega
      rw [List.getElem?_append_right (by rw [edgs_length]; omega), edgs_length, Nat.sub_self]; rfl
theorem el_cn : El Tryd.prog 45 36 4 32 := El.mk' Tryd.underlying45 (by kernel_rfl) (by decide)
theorem sp_take {rs : List Int} (h : U.AllR rs) (k : Nat) : U.Sp (U.encs (rs.take k)) (rs.take k) [] := ⟨fun r hr => h r (List.mem_of_mem_take hr), by rw [List.append_nil], by rfl⟩
theorem off_take (rs : List Int) (k : Nat) : (U.encs rs).take (U.off rs k) = U.encs (rs.take k) := by
  have e : U.encs rs = U.encs (rs.take k) ++ U.encs (rs.drop k) := by rw [← U.encs_append, List.take_append_drop]
  unfold U.off
  rw [e]
  exact List.take_left
theorem own_one {w : World} {x : Cn} : (w.alloc (.cells #[.int .i64 x.b, .int .i64 x.h, .int .i64 x.r, .int .i64 x.l] 36)).ownsRow w.heap.size 36 4 (.slice (some ⟨w.heap.size, 0, none⟩) 1 1) 1 (cnv [x]) :=
  ⟨by rw [cnv_length]; rfl, .inr ⟨w.heap.size, 1, _, rfl, Nat.le_refl _, Blk.new _ _ _, Nat.le_refl _, by unfold maxLen; omega, rfl, by simp [cnv]⟩⟩
section
attribute [local go_sem] ext_take
set_option maxHeartbeats 8000000 in
theorem redges_calls {rs : List Int} {s : U.Bs} {w : World} (hall : U.AllR rs) (hse : s = U.encs rs) (hs : s.length ≤ 1000000) :
    Calls Tryd.prog 23 #[.string ⟨s.toArray⟩] w fun e w' => (∃ v, e = .returned v ∧ Sl w' 4 v (rs.length + 1) (cnv (edgs rs rs.length))) ∧ Below w.heap.size w w' := by
  have HS : Hd (U.Sp s rs []) := ⟨⟨hall, by rw [hse, List.append_nil], by rfl⟩⟩
  have HA := Hd.mk hall
  have hlen := HS.out.length
  have hll := U.len_le_off rs
  have hrl : rs.length ≤ 1000000 := by simp at hlen; omega
  have hol : U.off rs rs.length = s.length := by simp at hlen; omega
  have HSE := Hd.mk hse
  clear hse hlen hll
  go_enter Tryd.func23, Tryd.ntmps23
  go_wp2_with fail
  refine (rrunes_calls HS.out _ (by omega)).mono ?_
  rintro e w1 ⟨hb1, hok, _⟩
  obtain ⟨v, rfl, hsl⟩ := hok rfl
  have HSL := Hd.mk hsl
  have HB1 := Hd.mk hb1
  obtain ⟨A, c, rfl, -⟩ := hsl
  unfold fltV
  clear hok hb1
  go_wp2_with fail
  have HOWN : Hd (((w1.alloc (.cells #[.int .i64 0, .int .i64 (-1)] 25)).alloc (.cells #[.int .i64 0, .int .i64 0, .int .i64 0, .int .i64 0] 36)).ownsRow w1.heap.size 36 4 (.slice (some ⟨w1.heap.size + 1, 0, none⟩) 1 1) 1 (cnv (edgs rs 0))) := ⟨by
    have := own_one (w := w1.alloc (.cells #[.int .i64 0, .int .i64 (-1)] 25)) (x := Cn.zero)
    rw [World.size_alloc] at this
    exact own_mono this (by omega)⟩
  go_loopw [5, 6, 20] (fun out at_ i wr => ∃ k a : Nat, k ≤ rs.length ∧ i = .int .i64 k ∧ at_ = .int .i64 a ∧ a = U.off rs k ∧ wr.ownsRow w1.heap.size 36 4 out (k + 1) (cnv (edgs rs k)) ∧ Below w1.heap.size w1 wr) (fun _ _ i _ => rs.length - (intOf i).toNat)
  case atStart => exact ⟨0, 0, by omega, rfl, rfl, rfl, HOWN.out, ex_alloc (ex_alloc (Below.refl _ _) _) _⟩
  case round =>
    obtain ⟨k, a, hk, rfl, rfl, ha, hown, hbel⟩ := hrel
    have HB := Hd.mk hbel
    have HOW := Hd.mk hown
    obtain ⟨Ao, co, rfl⟩ := own_form hown
    have hsz := hbel.size
    by_cases hkn : k < rs.length
    · obtain ⟨ad, c', u, hv, hlt, hu, hc⟩ := (HSL.out.below hbel).at_ hkn
      cases hv
      have hu2 : u = .int .i32 rs[k] := by
        unfold i32s at hu
        rw [List.getElem?_map, List.getElem?_eq_getElem hkn] at hu
        simpa using hu.symm
      subst hu2
      have HRR := Hd.mk (HA.out _ (List.getElem_mem hkn))
      have hos := U.off_succ hkn
      have hol2 : U.off rs (k + 1) ≤ U.off rs rs.length := U.off_le (by omega)
      have hel := U.enc_length rs[k]
      have HSP := Hd.mk (sp_take HA.out (k + 1))
      have HTK : Hd (s.take (a + (U.enc rs[k]).length) = U.encs (rs.take (k + 1))) := ⟨by rw [hel, ha, ← hos, HSE.out, off_take]⟩
      have HAK : Hd (a + (U.enc rs[k]).length = U.off rs (k + 1)) := ⟨by rw [hel, ha, ← hos]⟩
      have hlt2 : a + (U.enc rs[k]).length ≤ s.length := by omega
      have HTL : Hd ((U.encs (rs.take (k + 1))).length ≤ 1000000) := ⟨by rw [← HTK.out, List.length_take]; omega⟩
      generalize rs[k] = r at *
      have HED : Hd (cnv (edgs rs (k + 1)) = cnv (edgs rs k) ++ (#[.int .i64 (cnt (rs.take (k + 1))).b, .int .i64 (cnt (rs.take (k + 1))).h, .int .i64 (cnt (rs.take (k + 1))).r, .int .i64 (cnt (rs.take (k + 1))).l] : Array Value).toList) := ⟨by rw [edgs, cnv_append, cnv_one]⟩
      clear hown hbel hu ha hos hel
      go_wp2_with fail
      refine (bytes_calls r _ HRR.out).mono ?_
      rintro e w2 ⟨rfl, hb2⟩
      have HB2 := Hd.mk (HB.out.trans (hb2.mono hsz))
      have HO2 := Hd.mk (own_only HOW.out (Only.of_below (S := fun _ => False) hb2) (fun _ _ h => h))
      clear hb2
      go_wp2_with fail
      rw [HTK.out]
      refine (rcount_calls HSP.out _ (by have := HTL.out; omega)).mono ?_
      rintro e w3 ⟨hb3, hok3, _⟩
      obtain rfl := hok3 rfl
      have HB3 := Hd.mk (HB2.out.trans (hb3.mono HB2.out.size))
      have HO3 := Hd.mk (own_only HO2.out (Only.of_below (S := fun _ => False) hb3) (fun _ _ h => h))
      have hz3 := HB3.out.size
      clear hb3 hok3
      unfold fltV
      generalize cnt (rs.take (k + 1)) = cc at *
      go_wp2_with (at_builtin; refine append_lit' el_cn #[.int .i64 cc.b, .int .i64 cc.h, .int .i64 cc.r, .int .i64 cc.l] (by repeat (first | exact HO3.out | apply World.ownsRow.alloc)) rfl rfl rfl rfl (by simp) rfl (one4 rfl rfl rfl rfl) (by unfold maxLen; omega) (by omega) (by simp only [World.size_alloc]; omega) ?_; intro v9 w9 hown9 hbel9 hgr9 hnew9; obtain ⟨A9, k9, rfl⟩ := own_form hown9; have HO9 := Hd.mk hown9; have HB9 := Hd.mk hbel9; clear hown9 hbel9 hgr9 hnew9)
      exact ⟨⟨k + 1, a + (U.enc r).length, by omega, by go_num, by go_num, HAK.out, by rw [HED.out]; exact HO9.out, (by repeat (first | exact HB3.out | apply ex_alloc) : Below w1.heap.size w1 _).trans HB9.out⟩, by simp only [intOf]; omega⟩
    · obtain rfl : k = rs.length := by omega
      have HS9 := Hd.mk (Sl.of_own hown)
      clear hown hbel ha
      go_wp2_with fail
      go_ret
      exact ⟨⟨_, rfl, HS9.out⟩, bstep HB1.out HB.out⟩
end
end Go.Proofs.YtgokmldngnmmhaaDoor
