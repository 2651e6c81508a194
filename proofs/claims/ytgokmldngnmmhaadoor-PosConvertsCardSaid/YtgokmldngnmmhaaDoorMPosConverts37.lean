/- The reference's Line. -/
import Derived.Test.YtgokmldngnmmhaaDoorMPosConverts31
import Derived.Test.YtgokmldngnmmhaaDoorMPosConverts36
import Derived.Test.YtgokmldngnmmhaaDoorMPosConverts35
import Derived.Lib.Bytealg
namespace Go.Proofs.YtgokmldngnmmhaaDoor
open Go.RowKit
set_option maxRecDepth 100000
theorem indexByte_calls (s : ByteArray) (w : World) :
    Calls Tryd.prog 110 #[.string s, .int .u8 10] w fun e w' => e = .returned (.int .i64 (Lib.indexByte s.data.toList 10)) ∧ w' = w := by
  have H : ∀ w, Calls Tryd.prog 134 #[.string s, .int .u8 10] w fun e w' => e = .returned (.int .i64 (Lib.indexByte s.data.toList 10)) ∧ w' = w := by
    intro w
    go_enter Tryd.func134, Tryd.ntmps134
    go_wp2
    rw [run_callFunc_extern Tryd.func144 (by kernel_rfl) (by kernel_rfl) (by kernel_rfl) (e := Extern.BytealgIndexByte.indexByte) (by kernel_rfl), Lib.run_indexByteString]
    simp only [Result.andThen]
    rw [Oper.upon_value]
    go_wp2
    go_ret
    exact ⟨rfl, rfl⟩
  have HH := fun w => Hd.mk (H w)
  clear H
  go_enter Tryd.func110, Tryd.ntmps110
  go_wp2_with (go_at_call 134; refine (HH _).out.mono ?_; rintro e w1 ⟨rfl, rfl⟩)
  go_ret
  exact ⟨rfl, rfl⟩
theorem LineR.unique {n : Int} {R : List Int} {c c' : Cn} {er er' : Value} (h : LineR n R c er) (h' : LineR n R c' er') : c = c' ∧ er = er' := by
  obtain ⟨h1, h2⟩ := h
  obtain ⟨k1, k2⟩ := h'
  by_cases hn : n < 0 ∨ (cnt R).l < n
  · exact ⟨(h1 hn).1.trans (k1 hn).1.symm, (h1 hn).2.trans (k1 hn).2.symm⟩
  · exact ⟨(h2 hn).2.unique (k2 hn).2, (h2 hn).1.trans (k2 hn).1.symm⟩
def RLPost (n : Int) (R : List Int) (w : World) (e : Ending) (w' : World) : Prop :=
  Below w.heap.size w w' ∧ ∃ c k, e = .returned (.tuple #[c.v, .int .i64 k]) ∧ LineR n R c (erV k)
attribute [local go_sem] Cn.v_eq
/-- The cells of the result, behind its store and two new blocks. -/
theorem cn_end {w2 : World} {B : Nat} {z : Cn} {o1 o2 : Obj} (h : CnBlk w2 B z) (b h2 r l : Int) : ∀ W, W = (((((w2.setCell ⟨B, 0, none⟩ (.int .i64 b)).setCell ⟨B, 1, none⟩ (.int .i64 h2)).setCell ⟨B, 2, none⟩ (.int .i64 r)).setCell ⟨B, 3, none⟩ (.int .i64 l)).alloc o1).alloc o2 →
    W.cell? ⟨B, 0, none⟩ = some (.int .i64 b) ∧ W.cell? ⟨B, 1, none⟩ = some (.int .i64 h2) ∧ W.cell? ⟨B, 2, none⟩ = some (.int .i64 r) ∧ W.cell? ⟨B, 3, none⟩ = some (.int .i64 l) := by
  rintro W rfl
  have h1 := cn_store h ⟨b, h2, r, l⟩
  have h3 : CnBlk _ B ⟨b, h2, r, l⟩ := h1.below (ex_alloc (ex_alloc (Below.refl _ _) o1) o2) h1.lt
  exact h3.cells
set_option maxHeartbeats 8000000 in
theorem rline_calls {R : List Int} {n : Int} {w : World} (hR : U.AllR R) (hl : bl R ≤ 1000000) :
    Calls Tryd.prog 67 #[.string ⟨(U.encs R).toArray⟩, .int .i64 n] w (RLPost n R w) := by
  have hlen : (U.encs R).length = bl R := rfl
  have HA := Hd.mk hR
  have HC := fun w1 => Hd.mk (rcount_calls (U.sp_encs hR) w1 (by rw [hlen]; omega))
  obtain ⟨tot, htot⟩ : ∃ x, x = (cnt R).l := ⟨_, rfl⟩
  have HTOT := Hd.mk htot
  have hz0 : CnBlk (w.alloc (.cells #[.int .i64 0, .int .i64 0, .int .i64 0, .int .i64 0] 36)) w.heap.size Cn.zero := heap_alloc_new w _
  have HZ0 := Hd.mk hz0
  clear hz0
  by_cases hn : 0 ≤ n ∧ n ≤ tot
  · obtain ⟨N, rfl⟩ : ∃ N : Nat, n = N := ⟨n.toNat, by omega⟩
    have HN := Hd.mk hn
    clear hR htot hn
    go_enter Tryd.func67, Tryd.ntmps67
    go_wp2_with (first
      | (go_at_call 18; refine (HC _).out.mono ?_; rintro e w1 ⟨hb1, he, -⟩; obtain rfl := he rfl; have HB1 := Hd.mk (bstep (ex_alloc (Below.refl _ _) _) hb1); have hz1 := HZ0.out.below hb1 HZ0.out.lt; have HZ1 := Hd.mk hz1; clear hb1 he hz1; unfold fltV)
      | (go_at_call 87; rw [← HTOT.out]; refine (inT HN.out _).mono ?_; rintro e w3 ⟨rfl, rfl⟩))
    have hzb : CnBlk ((w1.alloc (.cells #[.int .i64 (cnt R).b, .int .i64 (cnt R).h, .int .i64 (cnt R).r, .int .i64 tot] 36)).alloc (.cells #[.int .i64 0, .int .i64 (-1)] 25)) w.heap.size Cn.zero := HZ1.out.below (ex_alloc (ex_alloc (Below.refl _ _) _) _) HZ1.out.lt
    have HZB := Hd.mk hzb
    have HBB := Hd.mk (ex_alloc (ex_alloc HB1.out (.cells #[.int .i64 (cnt R).b, .int .i64 (cnt R).h, .int .i64 (cnt R).r, .int .i64 tot] 36)) (.cells #[.int .i64 0, .int .i64 (-1)] 25))
    generalize (w1.alloc (.cells #[.int .i64 (cnt R).b, .int .i64 (cnt R).h, .int .i64 (cnt R).r, .int .i64 tot] 36)).alloc (.cells #[.int .i64 0, .int .i64 (-1)] 25) = wb at HZB HBB ⊢
    clear hzb
    go_loopg [8, 23] N (fun gk av iv wr => ∃ (j : Nat) (p q : List Int), av = .int .i64 (bl p : Nat) ∧ iv = .int .i64 (j : Int) ∧ R = p ++ q ∧ (cnt p).l = j ∧ (p = [] ∨ ∃ p', p = p' ++ [10]) ∧ j + gk = N ∧ wr = wb)
    case atStart => exact ⟨0, [], R, rfl, rfl, rfl, rfl, .inl rfl, by omega, rfl⟩
    case round =>
      obtain ⟨j, p, q, rfl, rfl, hpq, hpl, hpe, hj, rfl⟩ := hrel
      have hall : U.AllR (p ++ q) := hpq ▸ HA.out
      obtain ⟨a, ha⟩ : ∃ a, a = bl p := ⟨_, rfl⟩
      have hbr : bl R = a + bl q := by rw [hpq, bl_append, ha]
      obtain ⟨m, hm⟩ : ∃ m, m = bl R := ⟨_, rfl⟩
      have hlm : (U.encs R).length = m := by rw [hlen, hm]
      have HPQ := Hd.mk hpq
      have HPL := Hd.mk hpl
      have HPE := Hd.mk hpe
      have HJ := Hd.mk hj
      have HAP := Hd.mk ha
      rw [← ha]
      by_cases h7 : j < N
      · have h8 : (j : Int) < (N : Int) := by omega
        have hq : 0 < (cnt q).l := by
          have h1 : (cnt R).l = (cnt p).l + (cnt q).l := by rw [hpq, cnt_app_l]
          have h2 := HN.out
          have h3 := HTOT.out
          omega
        obtain ⟨x, q', hqe, hl2, hix, hb2, he2⟩ := line_step hall hq
        obtain ⟨b, hb⟩ : ∃ b, b = bl x := ⟨_, rfl⟩
        have hle : a + b + 1 ≤ m := by
          have h1 := congrArg bl he2
          rw [bl_append, bl_append, hb2] at h1
          omega
        have hsl : (ByteArray.mk (U.encs R).toArray).extract a m = ⟨(U.encs q).toArray⟩ := by
          rw [← hlm, ext_drop, hpq, U.encs_append, ha]
          unfold bl; rw [List.drop_left]
        have HIB : ∀ w, Hd (Calls Tryd.prog 110 #[.string ((ByteArray.mk (U.encs R).toArray).extract a m), .int .u8 10] w fun e w' => e = .returned (.int .i64 (b : Int)) ∧ w' = w) := fun w => ⟨by
          rw [hsl, hb, ← hix]
          exact indexByte_calls ⟨(U.encs q).toArray⟩ w⟩
        have g1 : (0 : Int) ≤ (a : Int) := by omega
        have g2 : (a : Int) ≤ (m : Int) := by omega
        have g3 : a ≤ m := by omega
        have hw1 : IntKind.i64.wrap ((b : Int) + 1) = (b : Int) + 1 := by rw [IntKind.wrap_i64] <;> omega
        have hw2 : IntKind.i64.wrap ((a : Int) + ((b : Int) + 1)) = (a : Int) + ((b : Int) + 1) := by rw [IntKind.wrap_i64] <;> omega
        have hw3 : wrap64 ((j : Int) + 1) = (j : Int) + 1 := by
          have h1 := l_le (rs := R) (k := bl R) (bl_len R)
          have h2 := HN.out
          have h3 := HTOT.out
          unfold wrap64; omega
        have HL2 := Hd.mk hl2
        have HB2 := Hd.mk hb2
        have HE2 := Hd.mk he2
        have HBX := Hd.mk hb
        have HMM := Hd.mk hm
        clear hpq hpl hpe hj hall ha hbr hm hq hqe hl2 hix hb2 he2 hb hsl hlen
        go_wp2_with (first | (go_at_call 110; refine (HIB _).out.mono ?_; rintro e w3 ⟨rfl, rfl⟩))
        go_roundg (N - (j + 1))
        case rel => exact ⟨j + 1, p ++ x ++ [10], q', by rw [HB2.out, ← HAP.out, ← HBX.out]; simp; omega, by simp [hw3], HPQ.out.trans HE2.out, by rw [HL2.out, HPL.out]; simp, .inr ⟨p ++ x, rfl⟩, by omega, rfl⟩
        case measure => have := HJ.out; omega
      · obtain rfl : j = N := by omega
        have h8 : ¬ ((j : Int) < (j : Int)) := by omega
        have hsl : (ByteArray.mk (U.encs R).toArray).extract 0 a = ⟨(U.encs p).toArray⟩ := by
          rw [ext_take0 (by omega), hpq, U.encs_append, ha]
          unfold bl; rw [List.take_left]
        have g1 : (0 : Int) ≤ (a : Int) := by omega
        have g2 : (a : Int) ≤ (m : Int) := by omega
        have g3 : a ≤ m := by omega
        have HSL := Hd.mk hsl
        have hlp : (U.encs p).length ≤ 1000000 := by have : (U.encs p).length = a := by rw [ha]; rfl
                                                     omega
        have HCP := fun w1 => Hd.mk (rcount_calls (U.sp_encs (all_of_app hall).1) w1 (by omega))
        clear hpq hpl hpe hj hall ha hbr hm hsl h7 hlen
        go_wp2_with (first | (go_at_call 18; rw [HSL.out]; refine (HCP _).out.mono ?_; rintro e w2 ⟨hb2, he, -⟩; obtain rfl := he rfl; have HB2 := Hd.mk (bstep HBB.out hb2); have hz2 := HZB.out.below hb2 HZB.out.lt; have HZ2 := Hd.mk hz2; obtain ⟨s0, s1, s2, s3⟩ := hz2.cells; have sf := hz2.frozen; have sl := hz2.lt; clear hb2 he hz2; unfold fltV))
        obtain ⟨f0, f1, f2, f3⟩ := cn_end (o1 := .cells #[.int .i64 (cnt p).b, .int .i64 (cnt p).h, .int .i64 (cnt p).r, .int .i64 (cnt p).l] 36) (o2 := .cells #[.int .i64 0, .int .i64 (-1)] 25) HZ2.out (cnt p).b (cnt p).h (cnt p).r (cnt p).l _ rfl
        refine bodyPost_ret (v := .tuple #[(cnt p).v, .int .i64 0]) (by rw [Cn.v_eq]; simp [results, Tryd.results67, go_sem, f0, f1, f2, f3]) rfl ?_
        exact ⟨ex_alloc (ex_alloc (cn_below HB2.out) _) _, cnt p, 0, rfl, fun h => absurd h (by have := HN.out; have := HTOT.out; omega), fun _ => ⟨rfl, p, q, HPQ.out, HPL.out, rfl, HPE.out⟩⟩
  · have HNO := Hd.mk hn
    clear hR htot hn
    go_enter Tryd.func67, Tryd.ntmps67
    go_wp2_with (first
      | (go_at_call 18; refine (HC _).out.mono ?_; rintro e w1 ⟨hb1, he, -⟩; obtain rfl := he rfl; have HB1 := Hd.mk (bstep (ex_alloc (Below.refl _ _) _) hb1); have hz1 := HZ0.out.below hb1 HZ0.out.lt; have HZ1 := Hd.mk hz1; obtain ⟨s0, s1, s2, s3⟩ := hz1.cells; have sf := hz1.frozen; have sl := hz1.lt; clear hb1 he hz1; unfold fltV)
      | (go_at_call 87; rw [← HTOT.out]; refine (inF HNO.out _).mono ?_; rintro e w3 ⟨rfl, rfl⟩))
    obtain ⟨f0, f1, f2, f3⟩ := cn_end (o1 := .cells #[.int .i64 (cnt R).b, .int .i64 (cnt R).h, .int .i64 (cnt R).r, .int .i64 tot] 36) (o2 := .cells #[.int .i64 0, .int .i64 (-1)] 25) HZ1.out 0 0 0 0 _ rfl
    refine bodyPost_ret (v := .tuple #[.agg #[.int .i64 0, .int .i64 0, .int .i64 0, .int .i64 0], .int .i64 2]) (by simp [results, Tryd.results67, go_sem, f0, f1, f2, f3]) rfl ?_
    exact ⟨ex_alloc (ex_alloc (cn_below HB1.out) _) _, Cn.zero, 2, rfl, fun _ => ⟨rfl, rfl⟩, fun h => absurd (show n < 0 ∨ (cnt R).l < n by have := HNO.out; have := HTOT.out; omega) h⟩
end Go.Proofs.YtgokmldngnmmhaaDoor
