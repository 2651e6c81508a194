/- Several texts of the proof, one behind the other: RopeN, RefP, RopeO, Bld, RopeT, RopeGreatW. -/
import Derived.Test.YtgokmldngnmmhaaDoorMRopeGreat6
import Derived.Test.YtgokmldngnmmhaaDoorMRopeGreat7
import Derived.Test.YtgokmldngnmmhaaDoorMRopeGreat3
import Derived.Test.YtgokmldngnmmhaaDoorMRopeGreat4
import Derived.Test.YtgokmldngnmmhaaDoorMRopeGreat1
import Derived.Test.YtgokmldngnmmhaaDoorChecked
import Derived.Shelf.Strings.BuilderK
import Derived.Laws.EntriesVeiled
import Derived.Deep.RegionHeld3
/- Splice, where it refuses. -/
namespace Go.Proofs.YtgokmldngnmmhaaDoor
open Go.RowKit
set_option maxRecDepth 100000
attribute [local go_sem] field_cn
set_option maxHeartbeats 4000000 in
theorem splice_form {p : Nat} {t : RT} {w : World} {s : U.Bs} {rs : List Int} {rest : U.Bs} {x d : Int} (h : AtR w p t) (hs : U.Sp s rs rest) (hne : rest ≠ []) (hl : s.length ≤ 1000000) :
    Calls Tryd.prog 42 #[.pointer (some ⟨p, 0, none⟩), .int .i64 x, .int .i64 d, .string ⟨s.toArray⟩] w fun e w' => Below w.heap.size w w' ∧ ∃ g, e = .returned (atV g) ∧ AtBlk w' g 3 (bl rs) := by
  have HH := Hd.mk h
  have HC := fun w1 => Hd.mk (count_calls hs w1 (by omega))
  have HN := Hd.mk hne
  clear h hs hne
  go_enter Tryd.func42, Tryd.ntmps42
  go_wp2_with (first
    | (go_at_call 61; refine (counts_calls HH.out).mono ?_; rintro e w1 ⟨rfl, hb1⟩; rw [Cn.v_eq, cnt_b]; have HB1 := Hd.mk hb1; clear hb1)
    | (go_at_call 17; refine (HC _).out.mono ?_; rintro e w2 ⟨hb2, -, he⟩; obtain ⟨g, rfl, hat⟩ := he HN.out; have HAT := Hd.mk hat; have HB2 := Hd.mk (bstep HB1.out hb2); clear hb2 he hat; unfold atV))
  go_ret
  have h3 := HAT.out.below (ex_alloc (Below.refl _ _) (.cells #[Value.int .i64 Cn.zero.b, .int .i64 Cn.zero.h, .int .i64 Cn.zero.r, .int .i64 Cn.zero.l] 36))
  rw [U.off_full] at h3
  exact ⟨ex_alloc HB2.out _, g, rfl, h3⟩
/-- What Splice refuses of a text that is right. -/
def Refuse (t : RT) (x d : Int) (m : Nat) (k : Int) : Prop :=
  ((x < 0 ∨ d < 0 ∨ (bl t.runes : Int) < x ∨ (bl t.runes : Int) - x < d) ∧ k = 2) ∨
  (∃ a b : Nat, x = a ∧ d = b ∧ a + b ≤ bl t.runes ∧ (redg (U.encs t.runes) a && redg (U.encs t.runes) (a + b)) = false ∧ k = 1) ∨
  (∃ a b : Nat, x = a ∧ d = b ∧ a + b ≤ bl t.runes ∧ (redg (U.encs t.runes) a && redg (U.encs t.runes) (a + b)) = true ∧ 8000 < bl t.runes - b + m ∧ k = 12)
set_option maxHeartbeats 8000000 in
theorem splice_refuse {p : Nat} {t : RT} {w : World} {x d k : Int} {prs : List Int} (h : AtR w p t) (hg : Good t) (hp : U.AllR prs) (hl : bl prs ≤ 1000000) (hr : Refuse t x d (bl prs) k) :
    Calls Tryd.prog 42 #[.pointer (some ⟨p, 0, none⟩), .int .i64 x, .int .i64 d, .string ⟨(U.encs prs).toArray⟩] w fun e w' => e = .returned (errno k) ∧ Below w.heap.size w w' := by
  have HH := Hd.mk h
  have HG := Hd.mk hg
  have hsz := hg.sz
  have hlp : (U.encs prs).length = bl prs := rfl
  have HC := fun w1 => Hd.mk (count_calls (U.sp_encs hp) w1 (by rw [hlp]; omega))
  obtain ⟨n, hn⟩ : ∃ n, n = bl t.runes := ⟨_, rfl⟩
  unfold Refuse at hr
  have HN := Hd.mk hn
  rw [← hn] at hr hsz
  clear h hg hp hn
  rcases hr with ⟨hc, rfl⟩ | ⟨a, b, rfl, rfl, hab, hred, rfl⟩ | ⟨a, b, rfl, rfl, hab, hred, hfull, rfl⟩
  · by_cases h1 : x < 0
    · clear hc
      go_enter Tryd.func42, Tryd.ntmps42
      go_wp2_with (first
        | (go_at_call 61; refine (counts_calls HH.out).mono ?_; rintro e w1 ⟨rfl, hb1⟩; rw [Cn.v_eq, cnt_b, ← HN.out]; have HB1 := Hd.mk hb1; clear hb1)
        | (go_at_call 17; refine (HC _).out.mono ?_; rintro e w2 ⟨hb2, he, -⟩; obtain rfl := he rfl; have HB2 := Hd.mk (bstep HB1.out hb2); clear hb2 he))
      go_ret
      exact ⟨rfl, ex_alloc HB2.out _⟩
    · by_cases h2 : d < 0
      · clear hc
        go_enter Tryd.func42, Tryd.ntmps42
        go_wp2_with (first
          | (go_at_call 61; refine (counts_calls HH.out).mono ?_; rintro e w1 ⟨rfl, hb1⟩; rw [Cn.v_eq, cnt_b, ← HN.out]; have HB1 := Hd.mk hb1; clear hb1)
          | (go_at_call 17; refine (HC _).out.mono ?_; rintro e w2 ⟨hb2, he, -⟩; obtain rfl := he rfl; have HB2 := Hd.mk (bstep HB1.out hb2); clear hb2 he))
        go_ret
        exact ⟨rfl, ex_alloc HB2.out _⟩
      · by_cases h3 : (n : Int) < x
        · clear hc
          go_enter Tryd.func42, Tryd.ntmps42
          go_wp2_with (first
            | (go_at_call 61; refine (counts_calls HH.out).mono ?_; rintro e w1 ⟨rfl, hb1⟩; rw [Cn.v_eq, cnt_b, ← HN.out]; have HB1 := Hd.mk hb1; clear hb1)
            | (go_at_call 17; refine (HC _).out.mono ?_; rintro e w2 ⟨hb2, he, -⟩; obtain rfl := he rfl; have HB2 := Hd.mk (bstep HB1.out hb2); clear hb2 he))
          go_ret
          exact ⟨rfl, ex_alloc HB2.out _⟩
        · have h4 : (n : Int) - x < d := by omega
          clear hc
          go_enter Tryd.func42, Tryd.ntmps42
          go_wp2_with (first
            | (go_at_call 61; refine (counts_calls HH.out).mono ?_; rintro e w1 ⟨rfl, hb1⟩; rw [Cn.v_eq, cnt_b, ← HN.out]; have HB1 := Hd.mk hb1; clear hb1)
            | (go_at_call 17; refine (HC _).out.mono ?_; rintro e w2 ⟨hb2, he, -⟩; obtain rfl := he rfl; have HB2 := Hd.mk (bstep HB1.out hb2); clear hb2 he))
          go_ret
          exact ⟨rfl, ex_alloc HB2.out _⟩
  · have HAD : Hd ((a : Int) + (b : Int) = ((a + b : Nat) : Int)) := ⟨by omega⟩
    rcases Bool.and_eq_false_iff.1 hred with h1 | h1
    · have HE1 := Hd.mk h1
      clear h1 hred
      go_enter Tryd.func42, Tryd.ntmps42
      go_wp2_with (first
          | (go_at_call 61; refine (counts_calls HH.out).mono ?_; rintro e w1 ⟨rfl, hb1⟩; rw [Cn.v_eq, cnt_b, ← HN.out]; have HB1 := Hd.mk hb1; clear hb1)
          | (go_at_call 17; refine (HC _).out.mono ?_; rintro e w2 ⟨hb2, he, -⟩; obtain rfl := he rfl; have HB2 := Hd.mk (bstep HB1.out hb2); clear hb2 he)
          | (go_at_call_of 100 (Value.int .i64 (a : Int)); refine (edge_calls (HH.out.below (ex_alloc HB2.out _)) HG.out (by have := HN.out; omega)).mono ?_; rintro e w3 ⟨he, hb3⟩; rw [HE1.out] at he; obtain rfl := he; have HB3 := Hd.mk (bstep (ex_alloc HB2.out _) hb3); clear hb3))
      go_ret
      exact ⟨rfl, HB3.out⟩
    · cases h0 : redg (U.encs t.runes) a
      · have HE1 := Hd.mk h0
        clear h0 h1 hred
        go_enter Tryd.func42, Tryd.ntmps42
        go_wp2_with (first
            | (go_at_call 61; refine (counts_calls HH.out).mono ?_; rintro e w1 ⟨rfl, hb1⟩; rw [Cn.v_eq, cnt_b, ← HN.out]; have HB1 := Hd.mk hb1; clear hb1)
            | (go_at_call 17; refine (HC _).out.mono ?_; rintro e w2 ⟨hb2, he, -⟩; obtain rfl := he rfl; have HB2 := Hd.mk (bstep HB1.out hb2); clear hb2 he)
            | (go_at_call_of 100 (Value.int .i64 (a : Int)); refine (edge_calls (HH.out.below (ex_alloc HB2.out _)) HG.out (by have := HN.out; omega)).mono ?_; rintro e w3 ⟨he, hb3⟩; rw [HE1.out] at he; obtain rfl := he; have HB3 := Hd.mk (bstep (ex_alloc HB2.out _) hb3); clear hb3))
        go_ret
        exact ⟨rfl, HB3.out⟩
      · have HE1 := Hd.mk h0
        have HE2 := Hd.mk h1
        clear h0 h1 hred
        go_enter Tryd.func42, Tryd.ntmps42
        go_wp2_with (first
            | (go_at_call 61; refine (counts_calls HH.out).mono ?_; rintro e w1 ⟨rfl, hb1⟩; rw [Cn.v_eq, cnt_b, ← HN.out]; have HB1 := Hd.mk hb1; clear hb1)
            | (go_at_call 17; refine (HC _).out.mono ?_; rintro e w2 ⟨hb2, he, -⟩; obtain rfl := he rfl; have HB2 := Hd.mk (bstep HB1.out hb2); clear hb2 he)
            | (go_at_call_of 100 (Value.int .i64 (a : Int)); refine (edge_calls (HH.out.below (ex_alloc HB2.out _)) HG.out (by have := HN.out; omega)).mono ?_; rintro e w3 ⟨he, hb3⟩; rw [HE1.out] at he; obtain rfl := he; have HB3 := Hd.mk (bstep (ex_alloc HB2.out _) hb3); clear hb3)
            | (go_at_call 100; rw [HAD.out]; refine (edge_calls (HH.out.below HB3.out) HG.out (by have := HN.out; omega)).mono ?_; rintro e w4 ⟨he, hb4⟩; rw [HE2.out] at he; obtain rfl := he; have HB4 := Hd.mk (bstep HB3.out hb4); clear hb4))
        go_ret
        exact ⟨rfl, HB4.out⟩
  · have HAD : Hd ((a : Int) + (b : Int) = ((a + b : Nat) : Int)) := ⟨by omega⟩
    obtain ⟨h0, h1⟩ := Bool.and_eq_true_iff.1 hred
    have HE1 := Hd.mk h0
    have HE2 := Hd.mk h1
    clear h0 h1 hred
    have hf : (8000 : Int) < (n : Int) - (b : Int) + (bl prs : Int) := by omega
    go_enter Tryd.func42, Tryd.ntmps42
    go_wp2_with (first
        | (go_at_call 61; refine (counts_calls HH.out).mono ?_; rintro e w1 ⟨rfl, hb1⟩; rw [Cn.v_eq, cnt_b, ← HN.out]; have HB1 := Hd.mk hb1; clear hb1)
        | (go_at_call 17; refine (HC _).out.mono ?_; rintro e w2 ⟨hb2, he, -⟩; obtain rfl := he rfl; have HB2 := Hd.mk (bstep HB1.out hb2); clear hb2 he)
        | (go_at_call_of 100 (Value.int .i64 (a : Int)); refine (edge_calls (HH.out.below (ex_alloc HB2.out _)) HG.out (by have := HN.out; omega)).mono ?_; rintro e w3 ⟨he, hb3⟩; rw [HE1.out] at he; obtain rfl := he; have HB3 := Hd.mk (bstep (ex_alloc HB2.out _) hb3); clear hb3)
        | (go_at_call 100; rw [HAD.out]; refine (edge_calls (HH.out.below HB3.out) HG.out (by have := HN.out; omega)).mono ?_; rintro e w4 ⟨he, hb4⟩; rw [HE2.out] at he; obtain rfl := he; have HB4 := Hd.mk (bstep HB3.out hb4); clear hb4))
    go_ret
    exact ⟨rfl, HB4.out⟩
end Go.Proofs.YtgokmldngnmmhaaDoor
/- The reference's Splice, and how it and the rope's answer alike. -/
namespace Go.Proofs.YtgokmldngnmmhaaDoor
open Go.RowKit
set_option maxRecDepth 100000
theorem edg_redg (s : U.Bs) (a : Nat) : edg s a = redg s a := by
  unfold edg redg U.at_
  rfl
/-- What Splice makes of the runes R, and what it tells. -/
def SplR (R : List Int) (x d : Int) (prs : List Int) (rest : U.Bs) (R' : List Int) (k pl : Int) : Prop :=
  (rest ≠ [] ∧ R' = R ∧ k = 3 ∧ pl = bl prs) ∨
  (rest = [] ∧ R' = R ∧ pl = -1 ∧ k = 2 ∧ (x < 0 ∨ d < 0 ∨ (bl R : Int) < x ∨ (bl R : Int) - x < d)) ∨
  (rest = [] ∧ R' = R ∧ pl = -1 ∧ k = 1 ∧ ∃ a b : Nat, x = a ∧ d = b ∧ a + b ≤ bl R ∧ (redg (U.encs R) a && redg (U.encs R) (a + b)) = false) ∨
  (rest = [] ∧ R' = R ∧ pl = -1 ∧ k = 12 ∧ ∃ a b : Nat, x = a ∧ d = b ∧ a + b ≤ bl R ∧ (redg (U.encs R) a && redg (U.encs R) (a + b)) = true ∧ 8000 < bl R - b + bl prs) ∨
  (rest = [] ∧ pl = -1 ∧ k = 0 ∧ ∃ P D Q, R = P ++ D ++ Q ∧ x = bl P ∧ d = bl D ∧ bl P + bl prs + bl Q ≤ 8000 ∧ R' = P ++ prs ++ Q)
theorem splR_some (R : List Int) (h : U.AllR R) (x d : Int) (prs : List Int) (rest : U.Bs) : ∃ R' k pl, SplR R x d prs rest R' k pl := by
  by_cases hr : rest = []
  · by_cases h1 : x < 0 ∨ d < 0 ∨ (bl R : Int) < x ∨ (bl R : Int) - x < d
    · exact ⟨R, 2, -1, .inr (.inl ⟨hr, rfl, rfl, rfl, h1⟩)⟩
    · obtain ⟨a, rfl⟩ : ∃ a : Nat, x = a := ⟨x.toNat, by omega⟩
      obtain ⟨b, rfl⟩ : ∃ b : Nat, d = b := ⟨d.toNat, by omega⟩
      have hab : a + b ≤ bl R := by omega
      cases hE : (redg (U.encs R) a && redg (U.encs R) (a + b))
      · exact ⟨R, 1, -1, .inr (.inr (.inl ⟨hr, rfl, rfl, rfl, a, b, rfl, rfl, hab, hE⟩))⟩
      · by_cases hf : 8000 < bl R - b + bl prs
        · exact ⟨R, 12, -1, .inr (.inr (.inr (.inl ⟨hr, rfl, rfl, rfl, a, b, rfl, rfl, hab, hE, hf⟩)))⟩
        · obtain ⟨ha, hb⟩ := Bool.and_eq_true_iff.1 hE
          obtain ⟨p, q, hpq, hpa⟩ := (redg_iff h (a := a) (by omega)).1 ha
          obtain ⟨p2, q2, hpq2, hpa2⟩ := (redg_iff h (a := a + b) hab).1 hb
          rcases pre_le (hpq.symm.trans hpq2) with ⟨y, hy1, hy2⟩ | ⟨y, hy1, hy2⟩
          · subst hy1
            have hy : bl y = b := by rw [bl_append] at hpa2; omega
            refine ⟨p ++ prs ++ q2, 0, -1, .inr (.inr (.inr (.inr ⟨hr, rfl, rfl, p, y, q2, hpq2, by rw [hpa], by rw [hy], ?_, rfl⟩)))⟩
            have := congrArg bl hpq2
            simp only [bl_append] at this
            omega
          · subst hy1
            have hy : bl y = 0 ∧ b = 0 := by rw [bl_append] at hpa; omega
            have hbp : bl p2 = a := by omega
            refine ⟨p2 ++ prs ++ q2, 0, -1, .inr (.inr (.inr (.inr ⟨hr, rfl, rfl, p2, [], q2, by simpa using hpq2, by rw [hbp], by simp [hy.2], ?_, rfl⟩)))⟩
            have := congrArg bl hpq2
            simp only [bl_append] at this
            omega
  · exact ⟨R, 3, bl prs, .inl ⟨hr, rfl, rfl, rfl⟩⟩
theorem SplR.all {R R' prs : List Int} {x d k pl : Int} {rest : U.Bs} (h : SplR R x d prs rest R' k pl) (hR : U.AllR R) (hp : U.AllR prs) : U.AllR R' := by
  rcases h with ⟨-, rfl, -⟩ | ⟨-, rfl, -⟩ | ⟨-, rfl, -⟩ | ⟨-, rfl, -⟩ | ⟨-, -, -, P, D, Q, rfl, -, -, -, rfl⟩
  · exact hR
  · exact hR
  · exact hR
  · exact hR
  · intro r hr
    simp only [List.mem_append] at hr
    rcases hr with (hr | hr) | hr
    · exact hR r (by simp [hr])
    · exact hp r hr
    · exact hR r (by simp [hr])
theorem SplR.size {R R' prs : List Int} {x d k pl : Int} {rest : U.Bs} (h : SplR R x d prs rest R' k pl) (hR : bl R ≤ 8000) : bl R' ≤ 8000 := by
  rcases h with ⟨-, rfl, -⟩ | ⟨-, rfl, -⟩ | ⟨-, rfl, -⟩ | ⟨-, rfl, -⟩ | ⟨-, -, -, P, D, Q, rfl, -, -, hs, rfl⟩
  · exact hR
  · exact hR
  · exact hR
  · exact hR
  · simp only [bl_append]; omega
theorem spl_end {w5 : World} {B : Nat} {x y : Value} (h : Blk w5 B 25 #[x, y]) (k pl : Int) :
    ((w5.setCell ⟨B, 0, none⟩ (.int .i64 k)).setCell ⟨B, 1, none⟩ (.int .i64 pl)).cell? ⟨B, 0, none⟩ = some (.int .i64 k) ∧ ((w5.setCell ⟨B, 0, none⟩ (.int .i64 k)).setCell ⟨B, 1, none⟩ (.int .i64 pl)).cell? ⟨B, 1, none⟩ = some (.int .i64 pl) := by
  have h2 := (h.set_ 0 (.int .i64 k)).set_ 1 (.int .i64 pl)
  have f0 := h2.cell 0
  have f1 := h2.cell 1
  simp only [List.setIfInBounds_toArray, List.set_cons_zero, List.set_cons_succ, List.getElem?_toArray, List.getElem?_cons_zero, List.getElem?_cons_succ] at f0 f1
  exact ⟨f0, f1⟩
theorem spl_end2 {w1 : World} {B : Nat} {x y : Value} {o1 o2 : Obj} (h : Blk w1 B 25 #[x, y]) (k pl : Int) :
    ((((w1.setCell ⟨B, 0, none⟩ (.int .i64 k)).setCell ⟨B, 1, none⟩ (.int .i64 pl)).alloc o1).alloc o2).cell? ⟨B, 0, none⟩ = some (.int .i64 k) ∧ ((((w1.setCell ⟨B, 0, none⟩ (.int .i64 k)).setCell ⟨B, 1, none⟩ (.int .i64 pl)).alloc o1).alloc o2).cell? ⟨B, 1, none⟩ = some (.int .i64 pl) := by
  have h2 := (((h.set_ 0 (.int .i64 k)).set_ 1 (.int .i64 pl)).alloc o1).alloc o2
  have f0 := h2.cell 0
  have f1 := h2.cell 1
  simp only [List.setIfInBounds_toArray, List.set_cons_zero, List.set_cons_succ, List.getElem?_toArray, List.getElem?_cons_zero, List.getElem?_cons_succ] at f0 f1
  exact ⟨f0, f1⟩
theorem spl_below {w w5 : World} {x y : Value} (h : Below w.heap.size w w5) : Below w.heap.size w ((w5.setCell ⟨w.heap.size, 0, none⟩ x).setCell ⟨w.heap.size, 1, none⟩ y) :=
  (h.setCell (p := ⟨w.heap.size, 0, none⟩) (Nat.le_refl _) _).setCell (p := ⟨w.heap.size, 1, none⟩) (Nat.le_refl _) _
set_option maxHeartbeats 8000000 in
theorem rsplice_calls {R R' prs : List Int} {x d k pl : Int} {rest put : U.Bs} {w : World} (h : SplR R x d prs rest R' k pl) (hA : U.AllR R) (hs : U.Sp put prs rest) (hR : bl R ≤ 8000) (hl : put.length ≤ 1000000) :
    Calls Tryd.prog 41 #[.string ⟨(U.encs R).toArray⟩, .int .i64 x, .int .i64 d, .string ⟨put.toArray⟩] w fun e w' => e = .returned (.tuple #[.string ⟨(U.encs R').toArray⟩, fltV k pl]) ∧ Below w.heap.size w w' := by
  have HC := fun w1 => Hd.mk (rcount_calls hs w1 (by omega))
  have HP := Hd.mk hs
  have hlen : (U.encs R).length = bl R := rfl
  have HZ0 : Hd (Blk (w.alloc (.cells #[.int .i64 0, .int .i64 0] 25)) w.heap.size 25 #[.int .i64 0, .int .i64 0]) := ⟨Blk.new _ _ _⟩
  obtain ⟨n, hn⟩ : ∃ n, n = bl R := ⟨_, rfl⟩
  rw [← hn] at hlen hR
  unfold fltV
  rcases h with ⟨hne, rfl, rfl, rfl⟩ | ⟨rfl, rfl, rfl, rfl, hc⟩ | ⟨rfl, rfl, rfl, rfl, a, b, rfl, rfl, hab, hE⟩ | ⟨rfl, rfl, rfl, rfl, a, b, rfl, rfl, hab, hE, hf⟩ | ⟨rfl, rfl, rfl, P, D, Q, hPQ, rfl, rfl, hs2, rfl⟩
  · have HNE := Hd.mk hne
    have HRW : Hd (((U.off prs prs.length : Nat) : Int) = (bl prs : Int)) := ⟨by rw [U.off_full]; rfl⟩
    clear hs hne hn
    go_enter Tryd.func41, Tryd.ntmps41
    go_wp2_with (first
      | (go_at_call 18; refine (HC _).out.mono ?_; rintro e w1 ⟨hb1, -, he⟩; obtain rfl := he HNE.out; have hz := HZ0.out.below hb1 HZ0.out.lt; have HZ1 := Hd.mk hz; have r0 := hz.cell 0; have r1 := hz.cell 1; have rf := hz.frozen; have rl := hz.lt; simp only [List.getElem?_toArray, List.getElem?_cons_zero, List.getElem?_cons_succ] at r0 r1; clear hz; have HB1 := Hd.mk (bstep (ex_alloc (Below.refl _ _) _) hb1); clear hb1 he; unfold fltV))
    rw [HRW.out] at *
    go_region
    all_goals
      go_wp2_with fail
      obtain ⟨f0, f1⟩ := spl_end2 (o1 := .cells #[.int .i64 Cn.zero.b, .int .i64 Cn.zero.h, .int .i64 Cn.zero.r, .int .i64 Cn.zero.l] 36) (o2 := .cells #[.int .i64 3, .int .i64 (bl prs)] 25) HZ1.out (3) (bl prs)
      refine bodyPost_ret (v := .tuple #[.string ⟨(U.encs R').toArray⟩, .agg #[.int .i64 (3), .int .i64 (bl prs)]]) (by simp [results, Tryd.results41, go_sem, f0, f1]) rfl ?_
      exact ⟨rfl, ex_drew (ex_alloc (ex_alloc (spl_below HB1.out) _) _)⟩
  · have HRR := Hd.mk hn
    by_cases h1 : 0 ≤ x ∧ x ≤ (n : Int)
    · have h2 : ¬ (0 ≤ d ∧ d ≤ (n : Int) - x) := by omega
      clear hc hs hn
      have g1 := h1
      obtain ⟨h3, h4⟩ := h1
      go_enter Tryd.func41, Tryd.ntmps41
      go_wp2_with (first
        | (go_at_call 18; refine (HC _).out.mono ?_; rintro e w1 ⟨hb1, he, -⟩; obtain rfl := he rfl; have HZ1 := Hd.mk (HZ0.out.below hb1 HZ0.out.lt); have HB1 := Hd.mk (bstep (ex_alloc (Below.refl _ _) _) hb1); clear hb1 he; unfold fltV)
        | (go_at_call_of 87 (Value.int .i64 x); refine (inT g1 _).mono ?_; rintro e w3 ⟨rfl, rfl⟩)
        | (go_at_call 87; refine (inF h2 _).mono ?_; rintro e w3 ⟨rfl, rfl⟩)
        | (go_at_call 70; refine (bareR_calls _ _).mono ?_; rintro e w5 ⟨rfl, hb5⟩; have hz := HZ1.out.below (bstep (ex_alloc (ex_alloc (Below.refl _ _) _) _) hb5) HZ1.out.lt; have HZ5 := Hd.mk hz; have r0 := hz.cell 0; have r1 := hz.cell 1; have rf := hz.frozen; have rl := hz.lt; simp only [List.getElem?_toArray, List.getElem?_cons_zero, List.getElem?_cons_succ] at r0 r1; have HB5 := Hd.mk (bstep (ex_alloc (ex_alloc HB1.out _) _) hb5); clear hb5 hz))
      obtain ⟨f0, f1⟩ := spl_end HZ5.out (2) (-1)
      refine bodyPost_ret (v := .tuple #[.string ⟨(U.encs R').toArray⟩, .agg #[.int .i64 (2), .int .i64 (-1)]]) (by simp [results, Tryd.results41, go_sem, f0, f1]) rfl ?_
      exact ⟨rfl, spl_below HB5.out⟩
    · clear hc hs hn
      go_enter Tryd.func41, Tryd.ntmps41
      go_wp2_with (first
        | (go_at_call 18; refine (HC _).out.mono ?_; rintro e w1 ⟨hb1, he, -⟩; obtain rfl := he rfl; have HZ1 := Hd.mk (HZ0.out.below hb1 HZ0.out.lt); have HB1 := Hd.mk (bstep (ex_alloc (Below.refl _ _) _) hb1); clear hb1 he; unfold fltV)
        | (go_at_call 87; refine (inF h1 _).mono ?_; rintro e w3 ⟨rfl, rfl⟩)
        | (go_at_call 70; refine (bareR_calls _ _).mono ?_; rintro e w5 ⟨rfl, hb5⟩; have hz := HZ1.out.below (bstep (ex_alloc (ex_alloc (Below.refl _ _) _) _) hb5) HZ1.out.lt; have HZ5 := Hd.mk hz; have r0 := hz.cell 0; have r1 := hz.cell 1; have rf := hz.frozen; have rl := hz.lt; simp only [List.getElem?_toArray, List.getElem?_cons_zero, List.getElem?_cons_succ] at r0 r1; have HB5 := Hd.mk (bstep (ex_alloc (ex_alloc HB1.out _) _) hb5); clear hb5 hz))
      obtain ⟨f0, f1⟩ := spl_end HZ5.out (2) (-1)
      refine bodyPost_ret (v := .tuple #[.string ⟨(U.encs R').toArray⟩, .agg #[.int .i64 (2), .int .i64 (-1)]]) (by simp [results, Tryd.results41, go_sem, f0, f1]) rfl ?_
      exact ⟨rfl, spl_below HB5.out⟩
  · rw [← hn] at hab
    have g1 : 0 ≤ (a : Int) ∧ (a : Int) ≤ (n : Int) := by omega
    have g2 : 0 ≤ (b : Int) ∧ (b : Int) ≤ (n : Int) - (a : Int) := by omega
    have HAD : Hd ((a : Int) + (b : Int) = ((a + b : Nat) : Int)) := ⟨by omega⟩
    cases h0 : redg (U.encs R') a
    · have HE1 := Hd.mk h0
      clear h0 hE hs hn
      go_enter Tryd.func41, Tryd.ntmps41
      go_wp2_with (first
        | (go_at_call 18; refine (HC _).out.mono ?_; rintro e w1 ⟨hb1, he, -⟩; obtain rfl := he rfl; have HZ1 := Hd.mk (HZ0.out.below hb1 HZ0.out.lt); have HB1 := Hd.mk (bstep (ex_alloc (Below.refl _ _) _) hb1); clear hb1 he; unfold fltV)
        | (go_at_call_of 87 (Value.int .i64 (a : Int)); refine (inT g1 _).mono ?_; rintro e w3 ⟨rfl, rfl⟩)
        | (go_at_call 87; refine (inT g2 _).mono ?_; rintro e w3 ⟨rfl, rfl⟩)
        | (go_at_call_of 78 (Value.int .i64 (a : Int)); refine (redge_calls _ a _ (by rw [hlen]; omega)).mono ?_; rintro e w3 ⟨he, rfl⟩; rw [edg_redg, HE1.out] at he; obtain rfl := he)
        | (go_at_call 70; refine (bareR_calls _ _).mono ?_; rintro e w5 ⟨rfl, hb5⟩; have hz := HZ1.out.below (bstep (ex_alloc (ex_alloc (Below.refl _ _) _) _) hb5) HZ1.out.lt; have HZ5 := Hd.mk hz; have r0 := hz.cell 0; have r1 := hz.cell 1; have rf := hz.frozen; have rl := hz.lt; simp only [List.getElem?_toArray, List.getElem?_cons_zero, List.getElem?_cons_succ] at r0 r1; have HB5 := Hd.mk (bstep (ex_alloc (ex_alloc HB1.out _) _) hb5); clear hb5 hz))
      obtain ⟨f0, f1⟩ := spl_end HZ5.out (1) (-1)
      refine bodyPost_ret (v := .tuple #[.string ⟨(U.encs R').toArray⟩, .agg #[.int .i64 (1), .int .i64 (-1)]]) (by simp [results, Tryd.results41, go_sem, f0, f1]) rfl ?_
      exact ⟨rfl, spl_below HB5.out⟩
    · have h9 : redg (U.encs R') (a + b) = false := by rw [h0, Bool.true_and] at hE; exact hE
      have HE1 := Hd.mk h0
      have HE2 := Hd.mk h9
      clear h0 h9 hE hs hn
      go_enter Tryd.func41, Tryd.ntmps41
      go_wp2_with (first
        | (go_at_call 18; refine (HC _).out.mono ?_; rintro e w1 ⟨hb1, he, -⟩; obtain rfl := he rfl; have HZ1 := Hd.mk (HZ0.out.below hb1 HZ0.out.lt); have HB1 := Hd.mk (bstep (ex_alloc (Below.refl _ _) _) hb1); clear hb1 he; unfold fltV)
        | (go_at_call_of 87 (Value.int .i64 (a : Int)); refine (inT g1 _).mono ?_; rintro e w3 ⟨rfl, rfl⟩)
        | (go_at_call 87; refine (inT g2 _).mono ?_; rintro e w3 ⟨rfl, rfl⟩)
        | (go_at_call_of 78 (Value.int .i64 (a : Int)); refine (redge_calls _ a _ (by rw [hlen]; omega)).mono ?_; rintro e w3 ⟨he, rfl⟩; rw [edg_redg, HE1.out] at he; obtain rfl := he)
        | (go_at_call 78; rw [HAD.out]; refine (redge_calls _ (a + b) _ (by rw [hlen]; omega)).mono ?_; rintro e w3 ⟨he, rfl⟩; rw [edg_redg, HE2.out] at he; obtain rfl := he)
        | (go_at_call 70; refine (bareR_calls _ _).mono ?_; rintro e w5 ⟨rfl, hb5⟩; have hz := HZ1.out.below (bstep (ex_alloc (ex_alloc (Below.refl _ _) _) _) hb5) HZ1.out.lt; have HZ5 := Hd.mk hz; have r0 := hz.cell 0; have r1 := hz.cell 1; have rf := hz.frozen; have rl := hz.lt; simp only [List.getElem?_toArray, List.getElem?_cons_zero, List.getElem?_cons_succ] at r0 r1; have HB5 := Hd.mk (bstep (ex_alloc (ex_alloc HB1.out _) _) hb5); clear hb5 hz))
      obtain ⟨f0, f1⟩ := spl_end HZ5.out (1) (-1)
      refine bodyPost_ret (v := .tuple #[.string ⟨(U.encs R').toArray⟩, .agg #[.int .i64 (1), .int .i64 (-1)]]) (by simp [results, Tryd.results41, go_sem, f0, f1]) rfl ?_
      exact ⟨rfl, spl_below HB5.out⟩
  · rw [← hn] at hab hf
    have g1 : 0 ≤ (a : Int) ∧ (a : Int) ≤ (n : Int) := by omega
    have g2 : 0 ≤ (b : Int) ∧ (b : Int) ≤ (n : Int) - (a : Int) := by omega
    have HAD : Hd ((a : Int) + (b : Int) = ((a + b : Nat) : Int)) := ⟨by omega⟩
    obtain ⟨h0, h9⟩ := Bool.and_eq_true_iff.1 hE
    have HE1 := Hd.mk h0
    have HE2 := Hd.mk h9
    have hlp : put.length = bl prs := by have := hs.eq; rw [List.append_nil] at this; rw [this]; rfl
    have hf2 : (8000 : Int) < (n : Int) - (b : Int) + (put.length : Int) := by omega
    clear h0 h9 hE hs hn hf hlp
    go_enter Tryd.func41, Tryd.ntmps41
    go_wp2_with (first
      | (go_at_call 18; refine (HC _).out.mono ?_; rintro e w1 ⟨hb1, he, -⟩; obtain rfl := he rfl; have HZ1 := Hd.mk (HZ0.out.below hb1 HZ0.out.lt); have HB1 := Hd.mk (bstep (ex_alloc (Below.refl _ _) _) hb1); clear hb1 he; unfold fltV)
      | (go_at_call_of 87 (Value.int .i64 (a : Int)); refine (inT g1 _).mono ?_; rintro e w3 ⟨rfl, rfl⟩)
      | (go_at_call 87; refine (inT g2 _).mono ?_; rintro e w3 ⟨rfl, rfl⟩)
      | (go_at_call_of 78 (Value.int .i64 (a : Int)); refine (redge_calls _ a _ (by rw [hlen]; omega)).mono ?_; rintro e w3 ⟨he, rfl⟩; rw [edg_redg, HE1.out] at he; obtain rfl := he)
      | (go_at_call 78; rw [HAD.out]; refine (redge_calls _ (a + b) _ (by rw [hlen]; omega)).mono ?_; rintro e w3 ⟨he, rfl⟩; rw [edg_redg, HE2.out] at he; obtain rfl := he)
      | (go_at_call 70; refine (bareR_calls _ _).mono ?_; rintro e w5 ⟨rfl, hb5⟩; have hz := HZ1.out.below (bstep (ex_alloc (ex_alloc (Below.refl _ _) _) _) hb5) HZ1.out.lt; have HZ5 := Hd.mk hz; have r0 := hz.cell 0; have r1 := hz.cell 1; have rf := hz.frozen; have rl := hz.lt; simp only [List.getElem?_toArray, List.getElem?_cons_zero, List.getElem?_cons_succ] at r0 r1; have HB5 := Hd.mk (bstep (ex_alloc (ex_alloc HB1.out _) _) hb5); clear hb5 hz))
    obtain ⟨f0, f1⟩ := spl_end HZ5.out (12) (-1)
    refine bodyPost_ret (v := .tuple #[.string ⟨(U.encs R').toArray⟩, .agg #[.int .i64 (12), .int .i64 (-1)]]) (by simp [results, Tryd.results41, go_sem, f0, f1]) rfl ?_
    exact ⟨rfl, spl_below HB5.out⟩
  · obtain ⟨S, hS⟩ : ∃ S, S = P ++ prs ++ Q := ⟨_, rfl⟩
    have HSE := Hd.mk hS
    have HPQ := Hd.mk hPQ
    rw [← hS]
    obtain ⟨a, ha⟩ : ∃ a, a = bl P := ⟨_, rfl⟩
    obtain ⟨b, hb⟩ : ∃ b, b = bl D := ⟨_, rfl⟩
    have hnn : n = a + b + bl Q := by rw [hn, ha, hb, hPQ]; simp only [bl_append]
    have hab : a + b ≤ n := by omega
    have g1 : 0 ≤ (a : Int) ∧ (a : Int) ≤ (n : Int) := by omega
    have g2 : 0 ≤ (b : Int) ∧ (b : Int) ≤ (n : Int) - (a : Int) := by omega
    have HAD : Hd ((a : Int) + (b : Int) = ((a + b : Nat) : Int)) := ⟨by omega⟩
    have hE1 : redg (U.encs R) a = true := (redg_iff hA (by omega)).2 ⟨P, D ++ Q, by rw [hPQ, List.append_assoc], ha.symm⟩
    have hE2 : redg (U.encs R) (a + b) = true := (redg_iff hA (by omega)).2 ⟨P ++ D, Q, hPQ, by rw [bl_append, ha, hb]⟩
    have HE1 := Hd.mk hE1
    have HE2 := Hd.mk hE2
    have hlp : put.length = bl prs := by have := hs.eq; rw [List.append_nil] at this; rw [this]; rfl
    have HPU : Hd (put = U.encs prs) := ⟨by have := hs.eq; rw [List.append_nil] at this; exact this⟩
    have hf2 : ¬ ((8000 : Int) < (n : Int) - (b : Int) + (put.length : Int)) := by omega
    have hpl : (put.length : Int) ≤ 8000 := by omega
    have e1 : (ByteArray.mk (U.encs R).toArray).extract 0 a = ⟨(U.encs P).toArray⟩ := by
      rw [ext_take0 (by rw [hlen]; omega), hPQ, U.encs_append, U.encs_append, List.append_assoc, ha]
      unfold bl; rw [List.take_left]
    have e2 : (ByteArray.mk (U.encs R).toArray).extract (a + b) n = ⟨(U.encs Q).toArray⟩ := by
      rw [← hlen, ext_drop, hPQ, U.encs_append, U.encs_append, ha, hb]
      unfold bl; rw [← List.length_append, List.drop_left]
    have HE3 := Hd.mk e1
    have HE4 := Hd.mk e2
    rw [← ha, ← hb]
    clear hE1 hE2 hs hn hnn ha hb hlp hs2 e1 e2 HP hS hPQ
    go_enter Tryd.func41, Tryd.ntmps41
    go_wp2_with (first
      | (go_at_call 18; refine (HC _).out.mono ?_; rintro e w1 ⟨hb1, he, -⟩; obtain rfl := he rfl; have HZ1 := Hd.mk (HZ0.out.below hb1 HZ0.out.lt); have HB1 := Hd.mk (bstep (ex_alloc (Below.refl _ _) _) hb1); clear hb1 he; unfold fltV)
      | (go_at_call_of 87 (Value.int .i64 (a : Int)); refine (inT g1 _).mono ?_; rintro e w3 ⟨rfl, rfl⟩)
      | (go_at_call 87; refine (inT g2 _).mono ?_; rintro e w3 ⟨rfl, rfl⟩)
      | (go_at_call_of 78 (Value.int .i64 (a : Int)); refine (redge_calls _ a _ (by rw [hlen]; omega)).mono ?_; rintro e w3 ⟨he, rfl⟩; rw [edg_redg, HE1.out] at he; obtain rfl := he)
      | (go_at_call 78; rw [HAD.out]; refine (redge_calls _ (a + b) _ (by rw [hlen]; omega)).mono ?_; rintro e w3 ⟨he, rfl⟩; rw [edg_redg, HE2.out] at he; obtain rfl := he))
    have hw1 : IntKind.i64.wrap ((a : Int) + (b : Int)) = (a : Int) + (b : Int) := by rw [IntKind.wrap_i64] <;> omega
    go_region_with (go_at_call 70; refine (bareR_calls _ _).mono ?_; rintro e w5 ⟨rfl, hb5⟩; have hz := HZ1.out.below (bstep (ex_drew (ex_alloc (ex_alloc (Below.refl _ _) _) _)) hb5) HZ1.out.lt; have HZ5 := Hd.mk hz; have r0 := hz.cell 0; have r1 := hz.cell 1; have rf := hz.frozen; have rl := hz.lt; simp only [List.getElem?_toArray, List.getElem?_cons_zero, List.getElem?_cons_succ] at r0 r1; have HB5 := Hd.mk (bstep (ex_drew (ex_alloc (ex_alloc HB1.out _) _)) hb5); clear hb5 hz)
    all_goals
      go_wp2_with fail
      obtain ⟨f0, f1⟩ := spl_end HZ5.out (0) (-1)
      refine bodyPost_ret (v := .tuple #[.string ⟨(U.encs S).toArray⟩, .agg #[.int .i64 (0), .int .i64 (-1)]]) ?_ rfl ?_
      · simp [results, Tryd.results41, go_sem, f0, f1]
        rw [HE3.out, HE4.out, HPU.out, HSE.out, str_append, str_append, U.encs_append, U.encs_append]
      · exact ⟨rfl, spl_below HB5.out⟩
end Go.Proofs.YtgokmldngnmmhaaDoor
/- Splice, whatever comes of it. -/
namespace Go.Proofs.YtgokmldngnmmhaaDoor
open Go.RowKit
set_option maxRecDepth 100000
/-- What a Splice leaves: the rope of the runes R', in its own blocks and new ones. -/
structure SplW (w w' : World) (p : Nat) (t t' : RT) (R' : List Int) : Prop where
  runes : t'.runes = R'
  good : Good t'
  at_ : AtR w' p t'
  sub : ∀ i ∈ t'.blocks, i ∈ t.blocks ∨ w.heap.size ≤ i
  only : Only (fun i => i = p ∨ i ∈ t.blocks) w w'
theorem SplW.of_below {w w' : World} {p : Nat} {t : RT} (h : AtR w p t) (hg : Good t) (hb : Below w.heap.size w w') : SplW w w' p t t t.runes :=
  ⟨rfl, hg, h.below hb, fun _ h => .inl h, Only.of_below hb⟩
theorem splice_all {p : Nat} {t : RT} {w : World} {R' prs : List Int} {rest put : U.Bs} {x d k pl : Int} (h : AtR w p t) (hg : Good t) (hS : SplR t.runes x d prs rest R' k pl) (hs : U.Sp put prs rest) (hl : put.length ≤ 1000000) :
    Calls Tryd.prog 42 #[.pointer (some ⟨p, 0, none⟩), .int .i64 x, .int .i64 d, .string ⟨put.toArray⟩] w fun e w' => ∃ v t', e = .returned v ∧ ErrV w' v k pl ∧ SplW w w' p t t' R' := by
  have hlp : rest = [] → put = U.encs prs := fun e => by have := hs.eq; rwa [e, List.append_nil] at this
  have hbl : rest = [] → bl prs ≤ 1000000 := fun e => by have := hlp e; unfold bl; rw [← this]; exact hl
  rcases hS with ⟨hne, rfl, rfl, rfl⟩ | ⟨he, rfl, rfl, rfl, hc⟩ | ⟨he, rfl, rfl, rfl, a, b, rfl, rfl, hab, hE⟩ | ⟨he, rfl, rfl, rfl, a, b, rfl, rfl, hab, hE, hf⟩ | ⟨he, rfl, rfl, P, D, Q, hPQ, rfl, rfl, hs2, rfl⟩
  · refine (splice_form h hs hne hl).mono ?_
    rintro e w' ⟨hb, g, rfl, hat⟩
    exact ⟨_, t, rfl, .at_ g _ _ hat, .of_below h hg hb⟩
  · rw [hlp he]
    refine (splice_refuse h hg hs.all (hbl he) (.inl ⟨hc, rfl⟩)).mono ?_
    rintro e w' ⟨rfl, hb⟩
    exact ⟨_, t, rfl, .no _, .of_below h hg hb⟩
  · rw [hlp he]
    refine (splice_refuse h hg hs.all (hbl he) (.inr (.inl ⟨a, b, rfl, rfl, hab, hE, rfl⟩))).mono ?_
    rintro e w' ⟨rfl, hb⟩
    exact ⟨_, t, rfl, .no _, .of_below h hg hb⟩
  · rw [hlp he]
    refine (splice_refuse h hg hs.all (hbl he) (.inr (.inr ⟨a, b, rfl, rfl, hab, hE, hf, rfl⟩))).mono ?_
    rintro e w' ⟨rfl, hb⟩
    exact ⟨_, t, rfl, .no _, .of_below h hg hb⟩
  · rw [hlp he]
    refine (splice_ok h hg hPQ hs.all hs2).mono ?_
    rintro e w' ⟨rfl, t', hr, hg', hL⟩
    exact ⟨_, t', rfl, .nil, ⟨hr, hg', hL.at_, hL.sub, hL.only⟩⟩
end Go.Proofs.YtgokmldngnmmhaaDoor
/- strings.Builder: WriteString, String. -/
namespace Go.Proofs.YtgokmldngnmmhaaDoor
open Go.RowKit Go.Shelf
set_option maxRecDepth 100000
def bren : Go.Shelf.Ren := ⟨fun | 169 => 82 | n => n, fun | 70 => 138 | 9 => 9 | 0 => 0 | 72 => 141 | 37 => 139 | 127 => 201 | 3 => 3 | 5 => 5 | n => n, fun | n => n⟩
theorem blays : Go.Proofs.Lays.n169 Tryd.prog bren := {
  mixed := by kernel_rfl
  f169 := Tryd.func82.trans (congrArg some (by kernel_rfl))
  t0 := Tryd.underlying0
  a0 := Tryd.isAgg0
  z0 := Tryd.sizeOf0
  v0 := Tryd.zeroValue0
  t3 := Tryd.underlying3
  a3 := Tryd.isAgg3
  z3 := Tryd.sizeOf3
  v3 := Tryd.zeroValue3
  t9 := Tryd.underlying9
  a9 := Tryd.isAgg9
  z9 := Tryd.sizeOf9
  v9 := Tryd.zeroValue9
  t37 := Tryd.underlying139
  a37 := Tryd.isAgg139
  z37 := Tryd.sizeOf139
  v37 := Tryd.zeroValue139
  t70 := Tryd.underlying138
  a70 := Tryd.isAgg138
  z70 := Tryd.sizeOf138
  v70 := Tryd.zeroValue138
  t72 := Tryd.underlying141
  a72 := Tryd.isAgg141
  z72 := Tryd.sizeOf141
  v72 := Tryd.zeroValue141
  t127 := Tryd.underlying201
  a127 := Tryd.isAgg201
  z127 := Tryd.sizeOf201
  v127 := Tryd.zeroValue201 }
theorem bextra : Builder.Extra Tryd.prog bren := {
  sizeBuilder := by kernel_rfl
  liesBuilder := by kernel_rfl
  t5 := Tryd.underlying5
  a5 := Tryd.isAgg5
  z5 := Tryd.sizeOf5
  v5 := Tryd.zeroValue5
  infoByte := by kernel_rfl
  cellsByte := by kernel_rfl
  sizeByte := by kernel_rfl
  neB5 := by decide }
theorem bstring_calls (B b : Nat) (l : List UInt8) (w : World) (h : Lib.IsBuilderF 141 5 B b (Lib.byteCells l) w) (hBw : B ≤ w.heap.size) :
    Calls Tryd.prog 82 #[.pointer (some ⟨b, 0, none⟩)] w fun e w' => e = .returned (.string ⟨l.toArray⟩) ∧ (Lib.IsBuilderF 141 5 B b (Lib.byteCells l) w' ∧ Below B w w' ∧ Lib.OthersKept 5 (some b) w w') := Any.Builder_String_any_k blays bextra B b l w h hBw
set_option maxHeartbeats 1000000 in
theorem bcheck_used (b : Nat) (w : World) (h0 : w.cell? ⟨b, 0, none⟩ = some (.pointer (some ⟨b, 0, none⟩))) :
    Calls Tryd.prog 121 #[.pointer (some ⟨b, 0, none⟩)] w fun e w' => e = .returned (.tuple #[]) ∧ w' = w := by
  obtain ⟨j, hj, _⟩ := Option.map_eq_some_iff.1 bextra.sizeBuilder
  go_enter Tryd.func121, Tryd.ntmps121
  go_wp2
  rw [Lib.run_neq_ptr_same w _ Tryd.underlying138 hj]
  go_wp2
  go_end0
  exact ⟨rfl, rfl⟩
set_option maxHeartbeats 1000000 in
theorem bcheck_fresh (b : Nat) (w : World) (h0 : w.cell? ⟨b, 0, none⟩ = some (.pointer none)) (hsh : w.shape? b = some (141, 2)) (hfz : w.frozen? ⟨b, 0, none⟩ = false) :
    Calls Tryd.prog 121 #[.pointer (some ⟨b, 0, none⟩)] w fun e w' => e = .returned (.tuple #[]) ∧ w' = w.setCell ⟨b, 0, none⟩ (.pointer (some ⟨b, 0, none⟩)) := by
  obtain ⟨j, hj, hjs⟩ := Option.map_eq_some_iff.1 bextra.sizeBuilder
  go_enter Tryd.func121, Tryd.ntmps121
  go_wp2
  rw [Lib.run_to_unsafe w ⟨b, 0, none⟩ Tryd.underlying138 Tryd.underlying210 hj (by rw [hjs]; decide) hsh (Nat.zero_lt_succ 1)]
  simp only [Result.andThen]
  rw [Oper.upon_value]
  go_wp2
  rw [run_callFunc_extern Tryd.func140 (by kernel_rfl) (by kernel_rfl) (by kernel_rfl) (e := Extern.AbiNoEscape.same) (by kernel_rfl)]
  rw [Lib.run_noEscape]
  simp only [Result.andThen]
  rw [Oper.upon_value]
  go_wp2
  rw [Lib.run_from_unsafe w ⟨b, 0, none⟩ Tryd.underlying210 Tryd.underlying138 hj hsh bextra.liesBuilder]
  simp only [Result.andThen]
  rw [Oper.upon_value]
  go_wp2
  go_end0
  exact ⟨rfl, rfl⟩
theorem bcheck_calls (B b : Nat) (bs : List Value) (w : World) (h : Lib.IsBuilderF 141 5 B b bs w) :
    Calls Tryd.prog 121 #[.pointer (some ⟨b, 0, none⟩)] w fun e w' => e = .returned (.tuple #[]) ∧ (Lib.BuilderAtF 141 5 B b (.pointer (some ⟨b, 0, none⟩)) bs w' ∧ Below B w w' ∧ Lib.OthersKept 5 (some b) w w') := by
  rcases h with h | h
  · refine (bcheck_fresh b w h.cell0 h.shape h.frozen0).mono ?_
    rintro e w' ⟨rfl, rfl⟩
    exact ⟨rfl, h.used _, (Below.refl B w).setCell (p := ⟨b, 0, none⟩) h.1 _, (Lib.OthersKept.refl _ _ w).setCell ⟨b, 0, none⟩ rfl _⟩
  · refine (bcheck_used b w h.cell0).mono ?_
    rintro e w' ⟨rfl, rfl⟩
    exact ⟨rfl, h, Below.refl B _, Lib.OthersKept.refl _ _ _⟩
set_option maxHeartbeats 2000000 in
theorem bwrite_calls (B b : Nat) (bs : List Value) (s : ByteArray) (w : World) (h : Lib.IsBuilderF 141 5 B b bs w) (hlen : bs.length + s.size ≤ 140737488355328) (hBw : B ≤ w.heap.size) :
    Calls Tryd.prog 81 #[.pointer (some ⟨b, 0, none⟩), .string s] w fun e w' => e = .returned (.tuple #[.int .i64 s.size, .nilIface]) ∧ (Lib.BuilderAtF 141 5 B b (.pointer (some ⟨b, 0, none⟩)) (bs ++ Lib.strCells s) w' ∧ Below B w w' ∧ Lib.OthersKept 5 (some b) w w') := by
  obtain ⟨i0, hi, hz0, hz1, hz2⟩ := info_parts bextra.infoByte
  go_enter Tryd.func81, Tryd.ntmps81
  go_wp2_with (go_at_call 121; refine (bcheck_calls B b bs _ h).mono ?_)
  rintro e w1 ⟨rfl, h1, hb1, hk1⟩
  obtain ⟨hB, v, hbk, hown, hne⟩ := h1
  have c0 : w1.cell? ⟨b, 0, none⟩ = some (.pointer (some ⟨b, 0, none⟩)) := by rw [Lib.cell_of_heap hbk]; rfl
  have c1 : w1.cell? ⟨b, 1, none⟩ = some v := by rw [Lib.cell_of_heap hbk]; rfl
  go_wp2_with (at_builtin; refine Lib.wpList_append_own_stringF _ rfl _ _ 139 9 rfl B 5 i0 Tryd.underlying139 Tryd.underlying9 hi hz0 hz1 hz2 _ _ _ rfl hown s rfl ?c3 ?c4 ?c5 ?_)
  case c3 => unfold maxLen; omega
  case c4 => omega
  case c5 => have := hb1.size; omega
  intro v' w2 hown' hgrow _
  have hlt : b < w1.heap.size := by
    rcases Nat.lt_or_ge b w1.heap.size with h' | h'
    · exact h'
    · simp [Array.getElem?_eq_none h'] at hbk
  have hb2 : w2.heap[b]? = some (.cells #[.pointer (some ⟨b, 0, none⟩), v] 141 (0, 0)) := by
    rw [hgrow.block b hlt (fun e => hne e.symm)]
    exact hbk
  have d0 : w2.cell? ⟨b, 0, none⟩ = some (.pointer (some ⟨b, 0, none⟩)) := by rw [Lib.cell_of_heap hb2]; rfl
  have d1 : w2.cell? ⟨b, 1, none⟩ = some v := by rw [Lib.cell_of_heap hb2]; rfl
  have f1 : w2.frozen? ⟨b, 1, none⟩ = false := Lib.frozen_of_heap hb2 1
  obtain ⟨ao, n', cap, rfl⟩ : ∃ ao n' cap, v' = .slice ao n' cap := by
    rcases hown'.2 with ⟨hv, _⟩ | ⟨g, cap, cur, fz, hv, _⟩
    · exact ⟨_, _, _, hv⟩
    · exact ⟨_, _, _, hv⟩
  go_wp2
  go_ret2
  refine ⟨rfl, ?_, ?_, (hk1.grown hgrow (Lib.ownsRowF_kind hown)).setCell ⟨b, 1, none⟩ rfl _⟩
  · exact Lib.BuilderAtF.put (T := 141) (e := 5) hB hb2 (bs' := bs ++ Lib.strCells s) (by simpa [Lib.strCells_length] using hown') (by decide)
  · exact (hb1.grown hgrow (by have := hb1.size; omega) (fun k hk => (hown.lt k hk).1)).setCell (p := ⟨b, 1, none⟩) hB _
/-- A new builder. -/
theorem bnew (w : World) : Lib.IsBuilderF 141 5 w.heap.size w.heap.size (Lib.byteCells []) (w.alloc (.cells #[.pointer none, .slice none 0 0] 141)) := by
  refine Lib.IsBuilderF.of (.inl ⟨Nat.le_refl _, .slice none 0 0, Blk.new _ _ _, World.ownsRow_nil _ _ _ _, by simp [Value.ownBlock]⟩)
theorem bcells (l : List UInt8) : Lib.strCells ⟨l.toArray⟩ = Lib.byteCells l := by
  unfold Lib.strCells; rfl
end Go.Proofs.YtgokmldngnmmhaaDoor
/- Text. -/
namespace Go.Proofs.YtgokmldngnmmhaaDoor
open Go.RowKit Go.Shelf
set_option maxRecDepth 100000
theorem blk_keep {w w' : World} {g b : Nat} {t : TypeId} {cs : Array Value} (h : Blk w g t cs) (hk : Lib.OthersKept 5 (some b) w w') (hg : g ≠ b) (ht : t ≠ 5) : Blk w' g t cs :=
  hk g _ h (by simpa using hg) (fun c fz e => by injection e with e1 e2 e3; exact ht e2)
theorem AtT.keep {w w' : World} {b : Nat} {t : RT} (h : AtT w t) (hk : Lib.OthersKept 5 (some b) w w') (hb : b ∉ t.blocks) : AtT w' t := by
  induction t with
  | nil => trivial
  | node g rs l r ihl ihr =>
    simp only [RT.blocks_node, List.mem_append, List.mem_cons, not_or] at hb
    exact ⟨blk_keep h.1 hk (Ne.symm hb.2.1) (by decide), ihl h.2.1 hb.1, ihr h.2.2 hb.2.2⟩
theorem AtR.keep {w w' : World} {b p : Nat} {t : RT} (h : AtR w p t) (hk : Lib.OthersKept 5 (some b) w w') (hb : b ∉ t.blocks) (hp : p ≠ b) : AtR w' p t :=
  ⟨blk_keep h.blk hk hp (by decide), h.tree.keep hk hb, h.out⟩
/-- The closure that goes through the tree: its variable. -/
def walkV (v b : Nat) : Value := .func (.func 103) #[] #[.pointer (some ⟨v, 0, none⟩), .pointer (some ⟨b, 0, none⟩)]
/-- What the closure hands back. -/
def T1Post (B b : Nat) (l : List UInt8) (w : World) (e : Ending) (w' : World) : Prop :=
  e = .returned (.tuple #[]) ∧ Lib.IsBuilderF 141 5 B b (Lib.byteCells l) w' ∧ Below B w w' ∧ Lib.OthersKept 5 (some b) w w'
set_option maxHeartbeats 2000000 in
theorem text1_calls {B b v : Nat} {t : RT} {l : List UInt8} {w : World} (ht : AtT w t) (hv : Blk w v 175 #[walkV v b]) (hb : Lib.IsBuilderF 141 5 B b (Lib.byteCells l) w) (hvb : v ≠ b) (htb : b ∉ t.blocks) (hBw : B ≤ w.heap.size)
    (hlen : l.length + bl t.runes ≤ 1000000) : Calls Tryd.prog 103 #[t.ptr, .pointer (some ⟨v, 0, none⟩), .pointer (some ⟨b, 0, none⟩)] w (T1Post B b (l ++ U.encs t.runes) w) := by
  induction t generalizing l w with
  | nil =>
    have HB := Hd.mk hb
    rw [RT.ptr_nil]
    clear ht hv hb
    go_enter Tryd.func103, Tryd.ntmps103
    go_wp2_with fail
    go_end0
    exact ⟨rfl, by rw [RT.runes_nil, U.encs_nil, List.append_nil]; exact HB.out, Below.refl _ _, Lib.OthersKept.refl _ _ _⟩
  | node g rs a c iha ihc =>
    simp only [RT.blocks_node, List.mem_append, List.mem_cons, not_or] at htb
    simp only [RT.runes_node, bl_append] at hlen
    obtain ⟨c0, -, -, -, -, -, -, -, -, c9, c10, -⟩ := nodeV_cell ht.1
    have cl := ht.1.lt
    have cf := ht.1.frozen
    have v0 := hv.cell 0
    have vl := hv.lt
    simp only [List.getElem?_toArray, List.getElem?_cons_zero, walkV] at v0
    simp only [RT.ptr] at c9 c10
    rw [RT.ptr_node]
    have HT := Hd.mk ht
    have HV := Hd.mk hv
    have HB := Hd.mk hb
    have HTB := Hd.mk htb
    have HLN := Hd.mk hlen
    have HBW := Hd.mk hBw
    have IA := fun w1 (h1 : AtT w1 a) (h2 : Blk w1 v 175 #[walkV v b]) (h3 : Lib.IsBuilderF 141 5 B b (Lib.byteCells l) w1) (h4 : B ≤ w1.heap.size) => Hd.mk (iha (l := l) (w := w1) h1 h2 h3 htb.1 h4 (by omega))
    have IC := fun l1 w1 (h1 : AtT w1 c) (h2 : Blk w1 v 175 #[walkV v b]) (h3 : Lib.IsBuilderF 141 5 B b (Lib.byteCells l1) w1) (h4 : B ≤ w1.heap.size) (h5 : l1.length + bl c.runes ≤ 1000000) => Hd.mk (ihc (l := l1) (w := w1) h1 h2 h3 htb.2.2 h4 h5)
    have HRS : Hd ((U.encs rs).length = bl rs ∧ (U.encs a.runes).length = bl a.runes) := ⟨⟨rfl, rfl⟩⟩
    clear ht hv hb htb hlen hBw iha ihc
    go_enter Tryd.func103, Tryd.ntmps103
    go_wp2_with fail
    go_region_with (go_at_call 103; refine (IA w.drew (HT.out.2.1.below (ex_drew (Below.refl _ _))) HV.out HB.out HBW.out).out.mono ?_; rintro e w1 ⟨rfl, hb1, hbl1, hk1⟩; have hg1 := blk_keep HT.out.1 hk1 (Ne.symm HTB.out.2.1) (by decide); have hv1 := blk_keep HV.out hk1 hvb (by decide); obtain ⟨c0, -, -, -, -, -, -, -, -, c9, c10, -⟩ := nodeV_cell hg1; have cl := hg1.lt; have cf := hg1.frozen; have v0 := hv1.cell 0; have vl := hv1.lt; simp only [List.getElem?_toArray, List.getElem?_cons_zero, walkV] at v0; simp only [RT.ptr] at c9 c10; have HC1 := Hd.mk (HT.out.2.2.keep hk1 HTB.out.2.2); have HG1 := Hd.mk hg1; have HV1 := Hd.mk hv1; have HB1 := Hd.mk hb1; have HBL1 := Hd.mk ((Below.refl B w).drew.trans hbl1); have HK1 := Hd.mk ((Lib.OthersKept.refl _ _ w).drew.trans hk1); clear hg1 hv1 hb1 hbl1 hk1)
    all_goals
      go_wp2_with (go_at_call 81; refine (bwrite_calls B b (Lib.byteCells (l ++ U.encs a.runes)) ⟨(U.encs rs).toArray⟩ _ HB1.out (by rw [Lib.byteCells_length]; have := HLN.out; obtain ⟨q1, q2⟩ := HRS.out; simp only [ByteArray.size, List.size_toArray, List.length_append]; omega) (by have : w.heap.size ≤ w1.heap.size := HBL1.out.size; have := HBW.out; omega)).mono ?_; rintro e w2 ⟨rfl, hb2, hbl2, hk2⟩; have hg2 := blk_keep HG1.out hk2 (Ne.symm HTB.out.2.1) (by decide); have hv2 := blk_keep HV1.out hk2 hvb (by decide); obtain ⟨c0, -, -, -, -, -, -, -, -, c9, c10, -⟩ := nodeV_cell hg2; have cl := hg2.lt; have cf := hg2.frozen; have v0 := hv2.cell 0; have vl := hv2.lt; simp only [List.getElem?_toArray, List.getElem?_cons_zero, walkV] at v0; simp only [RT.ptr] at c9 c10; have HC2 := Hd.mk (HC1.out.keep hk2 HTB.out.2.2); have HV2 := Hd.mk hv2; rw [bcells, ← Lib.byteCells_append] at hb2; have HB2 := Hd.mk (.inr hb2 : Lib.IsBuilderF 141 5 B b (Lib.byteCells ((l ++ U.encs a.runes) ++ U.encs rs)) w2); have HBL2 := Hd.mk (HBL1.out.trans hbl2); have HK2 := Hd.mk (HK1.out.trans hk2); clear hg2 hv2 hb2 hbl2 hk2)
      go_region_with (go_at_call 103; refine (IC ((l ++ U.encs a.runes) ++ U.encs rs) w2.drew (HC2.out.below (ex_drew (Below.refl _ _))) HV2.out HB2.out (by have : w.heap.size ≤ w2.heap.size := HBL2.out.size; have := HBW.out; simp; omega) (by have := HLN.out; obtain ⟨q1, q2⟩ := HRS.out; simp only [List.length_append]; omega)).out.mono ?_; rintro e w3 ⟨rfl, hb3, hbl3, hk3⟩; have HB3 := Hd.mk hb3; have HBL3 := Hd.mk hbl3; have HK3 := Hd.mk hk3; clear hb3 hbl3 hk3)
      all_goals
        go_wp2_with fail
        go_end0
        refine ⟨rfl, ?_, HBL2.out.drew.trans HBL3.out, HK2.out.drew.trans HK3.out⟩
        have := HB3.out
        rw [RT.runes_node, U.encs_append, U.encs_append]
        simpa only [List.append_assoc] using this
theorem rtx_calls {p : Nat} {t : RT} {w : World} (h : AtR w p t) (hs : bl t.runes ≤ 1000000) :
    Calls Tryd.prog 43 #[.pointer (some ⟨p, 0, none⟩)] w fun e w' => e = .returned (.string ⟨(U.encs t.runes).toArray⟩) ∧ Below w.heap.size w w' := by
  have c0 := h.blk.cell 0
  have cl := h.blk.lt
  simp only [List.getElem?_toArray, List.getElem?_cons_zero, RT.ptr] at c0
  have HR := Hd.mk h
  have HLT := Hd.mk h.tree.lt
  have HS := Hd.mk hs
  clear h hs
  go_enter Tryd.func43, Tryd.ntmps43
  go_wp2_with fail
  have hB0 : Lib.IsBuilderF 141 5 w.heap.size w.heap.size (Lib.byteCells []) ((w.alloc (.cells #[.pointer none, .slice none 0 0] 141)).alloc (.cells #[walkV (w.heap.size + 1) w.heap.size] 175)) := (bnew w).alloc _
  have hV0 : Blk ((w.alloc (.cells #[.pointer none, .slice none 0 0] 141)).alloc (.cells #[walkV (w.heap.size + 1) w.heap.size] 175)) (w.heap.size + 1) 175 #[walkV (w.heap.size + 1) w.heap.size] := by
    have := Blk.new (w.alloc (.cells #[.pointer none, .slice none 0 0] 141)) 175 #[walkV (w.heap.size + 1) w.heap.size]
    rw [World.size_alloc] at this; exact this
  have HB0 := Hd.mk hB0
  have HV0 := Hd.mk hV0
  clear hB0 hV0
  go_region_with (go_at_call 103; refine (text1_calls (B := w.heap.size) (b := w.heap.size) (v := w.heap.size + 1) (t := t) (l := []) (HR.out.tree.below (ex_drew (ex_alloc (ex_alloc (Below.refl _ _) _) _))) HV0.out HB0.out (by omega) (fun e => by have := HLT.out _ e; omega) (by simp; omega) (by have := HS.out; simp; omega)).mono ?_; rintro e w3 ⟨rfl, hb3, hbl3, hk3⟩; have HB3 := Hd.mk hb3; have HBL3 := Hd.mk hbl3; have HK3 := Hd.mk hk3; clear hb3 hbl3 hk3)
  all_goals
    rw [List.nil_append] at HB3
    go_wp2_with (go_at_call 82; refine (bstring_calls w.heap.size w.heap.size (U.encs t.runes) _ HB3.out (by have := HBL3.out.size; simp at this; omega)).mono ?_; rintro e w4 ⟨rfl, -, hbl4, -⟩; have HBL4 := Hd.mk hbl4; clear hbl4)
    go_ret
    exact ⟨rfl, ((ex_drew (ex_alloc (ex_alloc (Below.refl _ _) _) _)).trans HBL3.out).trans HBL4.out⟩
end Go.Proofs.YtgokmldngnmmhaaDoor
/- The walk of the law RopeGreat. -/
namespace Go.Proofs.YtgokmldngnmmhaaDoor
open Go.RowKit
set_option maxRecDepth 100000
def ten : List Int := [48, 49, 50, 51, 52, 53, 54, 55, 56, 57]
def gr (j i : Nat) : List Int := (List.replicate j ten).flatten ++ List.replicate i 120
theorem gr_all (j i : Nat) : U.AllR (gr j i) := by
  intro r hr
  unfold gr at hr
  rcases List.mem_append.1 hr with h | h
  · obtain ⟨l, hl, h⟩ := List.mem_flatten.1 h
    rw [(List.mem_replicate.1 hl).2] at h
    simp [ten] at h
    rcases h with rfl | rfl | rfl | rfl | rfl | rfl | rfl | rfl | rfl | rfl <;> decide
  · rw [(List.mem_replicate.1 h).2]; decide
theorem gr_ten (j : Nat) : U.encs (gr j 0) ++ [48, 49, 50, 51, 52, 53, 54, 55, 56, 57] = U.encs (gr (j + 1) 0) := by
  unfold gr
  rw [List.replicate_succ', List.flatten_append, List.replicate_zero, List.append_nil, List.append_nil, U.encs_append]
  rfl
theorem gr_x (j i : Nat) : U.encs (gr j i) ++ [120] = U.encs (gr j (i + 1)) := by
  unfold gr
  rw [List.replicate_succ', ← List.append_assoc, U.encs_append _ [120]]
  rfl
theorem gr_bl (j i : Nat) : bl (gr j i) = 10 * j + i := by
  have h1 : ∀ j, bl (gr j 0) = 10 * j := by
    intro j
    induction j with
    | zero => rfl
    | succ j ih => unfold bl at ih ⊢; rw [← gr_ten, List.length_append, ih]; simp; omega
  induction i with
  | zero => exact h1 j
  | succ i ih => unfold bl at ih ⊢; rw [← gr_x, List.length_append, ih]; simp; omega
theorem gr_len (j i : Nat) : (U.encs (gr j i)).length = 10 * j + i := gr_bl j i
theorem gk_only {w3 w5 : World} {g p : Nat} {t t5 : RT} {R' : List Int} {x y : Value} (hz : Blk w3 g 25 #[x, y]) (hs : SplW w3.drew w5 p t t5 R') (hp : p < g ∧ ∀ j ∈ t.blocks, j < g) : Blk w5 g 25 #[x, y] := by
  have hz' : Blk w3.drew g 25 #[x, y] := hz
  refine hz'.only hs.only (fun e => ?_)
  rcases e with e | e
  · have := hp.1; omega
  · have := hp.2 g e; omega
theorem spl_whole {w0 w3 w5 : World} {p : Nat} {t t5 : RT} {R' : List Int} (hb : Below w0.heap.size w0 w3) (hs : SplW w3.drew w5 p t t5 R') (hp : w0.heap.size ≤ p ∧ ∀ i ∈ t.blocks, w0.heap.size ≤ i) : Below w0.heap.size w0 w5 :=
  (ex_drew hb).trans (hs.only.below (ex_drew hb).size (fun k hk e => by
    rcases e with rfl | e
    · have := hp.1; omega
    · have := hp.2 k e; omega))
theorem flt_cells {w : World} {g : Nat} {x y : Value} (h : Blk w g 25 #[x, y]) : w.cell? ⟨g, 0, none⟩ = some x ∧ w.cell? ⟨g, 1, none⟩ = some y := by
  have z0 := h.cell 0
  have z1 := h.cell 1
  simp only [List.getElem?_toArray, List.getElem?_cons_zero, List.getElem?_cons_succ] at z0 z1
  exact ⟨z0, z1⟩
attribute [local go_sem] gr_len
set_option maxHeartbeats 8000000 in
theorem ropeGreat_walk {many : Int} {put : U.Bs} {w : World} (hg : Hdl w) (hsm : put.length ≤ maxLen) :
    Calls Tryd.prog 6 #[.int .i64 many, .string ⟨put.toArray⟩] w fun e w' => e = .returned (.bool true) ∧ Below w.heap.size w w' := by
  have HG := Hd.mk hg
  clear hg
  unfold maxLen at hsm
  have hm : 0 ≤ IntKind.u64.wrap many := by unfold IntKind.wrap; simp [IntKind.signed, IntKind.bits]; omega
  have h3 : 0 ≤ IntKind.u64.wrap many % 60 := Int.emod_nonneg _ (by omega)
  have h4 : IntKind.u64.wrap many % 60 < 60 := Int.emod_lt_of_pos _ (by omega)
  by_cases hs : 100 < put.length
  · have hi : (100 : Int) < (put.length : Int) := by omega
    go_enter Tryd.func6, Tryd.ntmps6
    go_wp2_with fail
    go_ret
    exact ⟨rfl, Below.refl _ _⟩
  · have hi : ¬ ((100 : Int) < (put.length : Int)) := by omega
    obtain ⟨prs, rest, hsp⟩ := U.sp_exists put
    have HSP := Hd.mk hsp
    clear hsp
    go_enter Tryd.func6, Tryd.ntmps6
    go_wp2_with fail
    go_loopg [5] 797 (fun gk sv wr => ∃ j : Nat, sv = .string ⟨(U.encs (gr j 0)).toArray⟩ ∧ j + gk = 797 ∧ wr = w)
    case atStart => exact ⟨0, rfl, rfl, rfl⟩
    case round =>
      obtain ⟨j, rfl, hj, rfl⟩ := hrel
      by_cases h7 : j < 797
      · have h8 : ((10 * j + 0 : Nat) : Int) < 7970 := by omega
        have HJ := Hd.mk hj
        clear hj
        go_wp2_with fail
        go_roundg (797 - (j + 1))
        case rel => exact ⟨j + 1, by rw [← gr_ten]; exact congrArg Value.string (str_append _ _), by omega, rfl⟩
        case measure => have := HJ.out; omega
      · obtain rfl : j = 797 := by omega
        clear hj h7
        obtain ⟨m, hm2⟩ : ∃ m : Nat, IntKind.u64.wrap many % 60 = (m : Int) := ⟨(IntKind.u64.wrap many % 60).toNat, by omega⟩
        have hm3 : m < 60 := by omega
        rw [hm2]
        clear hm h3 h4 hm2
        go_wp2_with fail
        go_loopg [5, 6] m (fun gk sv iv wq => ∃ i : Nat, sv = .string ⟨(U.encs (gr 797 i)).toArray⟩ ∧ iv = .int .i64 (i : Int) ∧ i + gk = m ∧ wq = wr)
        case atStart => exact ⟨0, rfl, rfl, by omega, rfl⟩
        case round =>
          obtain ⟨i, rfl, rfl, hi, rfl⟩ := hrel
          by_cases h7 : i < m
          · have h8 : (i : Int) < (m : Int) := by omega
            have HJ := Hd.mk hi
            clear hi
            go_wp2_with fail
            go_roundg (m - (i + 1))
            case rel => exact ⟨i + 1, by rw [← gr_x]; exact congrArg Value.string (str_append _ _), by simp, by omega, rfl⟩
            case measure => have := HJ.out; omega
          · obtain rfl : i = m := by omega
            clear hi h7
            have h8 : ¬ ((i : Int) < (i : Int)) := by omega
            obtain ⟨R, hR⟩ : ∃ R, R = gr 797 i := ⟨_, rfl⟩
            have hbl : bl R = 7970 + i := by rw [hR, gr_bl]
            have hall : U.AllR R := by rw [hR]; exact gr_all _ _
            have hlen : (U.encs R).length = 7970 + i := hbl
            have HNEW := Hd.mk (new_calls (U.sp_encs hall) wr (by rw [hlen]; omega))
            have HBL := Hd.mk hbl
            rw [← hR]
            clear hR
            by_cases hbig : 30 < i
            · have hc : (8000 : Int) < 7970 + (i : Int) := by omega
              have HBIG := Hd.mk hbig
              go_wp2_with (first
                | (go_at_call 40; refine HNEW.out.mono ?_; rintro e w1 ⟨hb, -, h2, -⟩; obtain rfl := h2 rfl (by have := HBIG.out; have := HBL.out; omega); have HB := Hd.mk hb; clear hb h2; unfold errno)
                | (go_at_call 30; refine (bare_true (.no 12) (HG.out.below HB.out)).mono ?_; rintro e w2 ⟨rfl, hb2⟩; have HB2 := Hd.mk (bstep HB.out hb2); clear hb2))
              go_ret
              exact ⟨rfl, HB2.out⟩
            · have hc : ¬ ((8000 : Int) < 7970 + (i : Int)) := by omega
              have hdv : wrap64 ((i : Int) / 2) = (i : Int) / 2 := by unfold wrap64; omega
              obtain ⟨R', k, pl, hS⟩ := splR_some R hall 5 ((i : Int) / 2) prs rest
              have HS := Hd.mk hS
              have HALL := Hd.mk hall
              have HBIG := Hd.mk hbig
              have HR' := Hd.mk (hS.size (by omega))
              clear hS hall hbig
              go_wp2_with (first
                | (go_at_call 40; refine HNEW.out.mono ?_; rintro e w1 ⟨hb, -, -, h3⟩; obtain ⟨p, t, rfl, hat, hgd, hrr, hp1, hp2⟩ := h3 rfl (by have := HBIG.out; have := HBL.out; omega); have HB := Hd.mk hb; have HAT := Hd.mk hat; have HGD := Hd.mk hgd; have HRR := Hd.mk hrr; have HBLK := Hd.mk (And.intro hp1 hp2); clear hb h3 hat hgd hrr hp1 hp2))
              refine (rsplice_calls HS.out HALL.out HSP.out (by have := HBL.out; have := HBIG.out; omega) (by omega)).mono ?_
              rintro e w2 ⟨rfl, hb2⟩
              have HB2 := Hd.mk (bstep HB.out hb2)
              have HA2 := Hd.mk (HAT.out.below hb2)
              clear hb2
              unfold fltV
              have hz : Blk (w2.alloc (.cells #[.int .i64 k, .int .i64 pl] 25)) w2.heap.size 25 #[.int .i64 k, .int .i64 pl] := Blk.new _ _ _
              have HZ := Hd.mk hz
              have HB3 := Hd.mk (ex_alloc HB2.out (.cells #[.int .i64 k, .int .i64 pl] 25))
              have HA3 := Hd.mk (HA2.out.below (ex_alloc (Below.refl _ _) (.cells #[.int .i64 k, .int .i64 pl] 25)))
              have HPL : Hd (p < w2.heap.size ∧ ∀ j ∈ t.blocks, j < w2.heap.size) := ⟨HA2.out.blk.lt, fun j hj => HA2.out.tree.lt j hj⟩
              clear hz
              go_wp2_with fail
              generalize w2.alloc (.cells #[.int .i64 k, .int .i64 pl] 25) = w3 at HZ HB3 HA3 ⊢
              generalize hg : w2.heap.size = g at *
              have hfc := flt_cells HZ.out
              have hl1 : put.length ≤ 1000000 := by omega
              have HW2 : Hd (IntKind.i64.wrap ((i : Int) / 2) = (i : Int) / 2) := ⟨by rw [IntKind.wrap_i64] <;> omega⟩
              have HS2 : Hd (SplR t.runes 5 ((i : Int) / 2) prs rest R' k pl) := ⟨by rw [HRR.out]; exact HS.out⟩
              have HA4 : Hd (AtR w3.drew p t) := ⟨HA3.out.below (ex_drew (Below.refl _ _))⟩
              have HSPL := fun (u : Unit) => Hd.mk (splice_all HA4.out HGD.out HS2.out HSP.out hl1)
              go_region_held3 (fun w' => w'.cell? ⟨g, 0, none⟩ = some (.int .i64 k) ∧ w'.cell? ⟨g, 1, none⟩ = some (.int .i64 pl)) (first | assumption | exact hfc)
                (first
                  | (go_at_call 42; rw [HW2.out]; refine (HSPL ()).out.mono ?_; rintro e w5 ⟨v, t5, rfl, hev, hsw⟩; have HEV := Hd.mk hev; have HSW := Hd.mk hsw; have hz5 := gk_only HZ.out hsw HPL.out; have HZ5 := Hd.mk hz5; have hfc5 := flt_cells hz5; have HB5 := Hd.mk (spl_whole HB3.out hsw HBLK.out); clear hev hsw hz5)
                  | (go_at_call 19; refine (is_true HEV.out (HG.out.below HB5.out)).mono ?_; rintro e w6 ⟨rfl, hb6⟩; have HA6 := Hd.mk (HSW.out.at_.below hb6); have hz6 := HZ5.out.below hb6 HZ5.out.lt; have HZ6 := Hd.mk hz6; have hfc6 := flt_cells hz6; have HB6 := Hd.mk (bstep HB5.out hb6); clear hb6 hz6)
                  | (go_at_call 43; refine (rtx_calls HA6.out (by rw [HSW.out.runes]; have := HR'.out; omega)).mono ?_; rw [HSW.out.runes]; rintro e w7 ⟨rfl, hb7⟩; have hfc7 := flt_cells (HZ6.out.below hb7 HZ6.out.lt); have HB7 := Hd.mk (bstep HB6.out hb7); clear hb7))
              all_goals
                go_wp2_with fail
                go_ret
                exact ⟨rfl, HB7.out⟩
end Go.Proofs.YtgokmldngnmmhaaDoor
