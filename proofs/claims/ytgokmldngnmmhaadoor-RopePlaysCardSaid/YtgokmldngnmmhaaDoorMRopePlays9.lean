/- Several texts of the proof, one behind the other: RefP, RopeO, RefE, MapL, RefIn, WalkI, RangeB. -/
import Derived.Test.YtgokmldngnmmhaaDoorMRopePlays6
import Derived.Test.YtgokmldngnmmhaaDoorMRopePlays7
import Derived.Test.YtgokmldngnmmhaaDoorMRopePlays8
import Derived.Test.YtgokmldngnmmhaaDoorMRopePlays2
import Derived.WalkKit
import Derived.WideLaws
import Derived.MapKept
import Derived.Test.YtgokmldngnmmhaaDoorMRopePlays1
import Derived.RangeFuncNested
import Derived.RangeFuncBound
import Derived.RangeFuncCalls
import Derived.RangeFuncLeaves
import Derived.Shelf.Abstract
import Derived.Shelf.RegionOpen
import Derived.OwnWalkIn
import Derived.TacticsInMore
import Derived.LoopNIn
import Derived.LoopIn
import Derived.Lib.QuietBelowIn
import Derived.Sort.BigQuietIn
import Derived.Sort.Grow
/- The reference's Splice, and how it and the rope's answer alike. -/
namespace Go.Proofs.YtgokmldngnmmhaaDoor
open Go.RowKit
set_option maxRecDepth 100000
theorem edg_redg (s : U.Bs) (a : Nat) : edg s a = redg s a := by
  unfold edg redg U.at_
  rfl
/-- What Splice makes of the runes R, and what it tells. -/
def SplR (R : List Int) (x d : Int) (prs : List Int) (rest : U.Bs) (R' : List Int) (k pl : Int) : Prop :=
  (rest ≠ [] ∧ R' = R ∧ k = 3 ∧ pl = bl prs) ∨
  (rest = [] ∧ R' = R ∧ pl = -1 ∧ k = 2 ∧ (x < 0 ∨ d < 0 ∨ (bl R : Int) < x ∨ (bl R : Int) - x < d)) ∨
  (rest = [] ∧ R' = R ∧ pl = -1 ∧ k = 1 ∧ ∃ a b : Nat, x = a ∧ d = b ∧ a + b ≤ bl R ∧ (redg (U.encs R) a && redg (U.encs R) (a + b)) = false) ∨
  (rest = [] ∧ R' = R ∧ pl = -1 ∧ k = 12 ∧ ∃ a b : Nat, x = a ∧ d = b ∧ a + b ≤ bl R ∧ (redg (U.encs R) a && redg (U.encs R) (a + b)) = true ∧ 8000 < bl R - b + bl prs) ∨
  (rest = [] ∧ pl = -1 ∧ k = 0 ∧ ∃ P D Q, R = P ++ D ++ Q ∧ x = bl P ∧ d = bl D ∧ bl P + bl prs + bl Q ≤ 8000 ∧ R' = P ++ prs ++ Q)
theorem splR_some (R : List Int) (h : U.AllR R) (x d : Int) (prs : List Int) (rest : U.Bs) : ∃ R' k pl, SplR R x d prs rest R' k pl := by
  by_cases hr : rest = []
  · by_cases h1 : x < 0 ∨ d < 0 ∨ (bl R : Int) < x ∨ (bl R : Int) - x < d
    · exact ⟨R, 2, -1, .inr (.inl ⟨hr, rfl, rfl, rfl, h1⟩)⟩
    · obtain ⟨a, rfl⟩ : ∃ a : Nat, x = a := ⟨x.toNat, by omega⟩
      obtain ⟨b, rfl⟩ : ∃ b : Nat, d = b := ⟨d.toNat, by omega⟩
      have hab : a + b ≤ bl R := by omega
      cases hE : (redg (U.encs R) a && redg (U.encs R) (a + b))
      · exact ⟨R, 1, -1, .inr (.inr (.inl ⟨hr, rfl, rfl, rfl, a, b, rfl, rfl, hab, hE⟩))⟩
      · by_cases hf : 8000 < bl R - b + bl prs
        · exact ⟨R, 12, -1, .inr (.inr (.inr (.inl ⟨hr, rfl, rfl, rfl, a, b, rfl, rfl, hab, hE, hf⟩)))⟩
        · obtain ⟨ha, hb⟩ := Bool.and_eq_true_iff.1 hE
          obtain ⟨p, q, hpq, hpa⟩ := (redg_iff h (a := a) (by omega)).1 ha
          obtain ⟨p2, q2, hpq2, hpa2⟩ := (redg_iff h (a := a + b) hab).1 hb
          rcases pre_le (hpq.symm.trans hpq2) with ⟨y, hy1, hy2⟩ | ⟨y, hy1, hy2⟩
          · subst hy1
            have hy : bl y = b := by rw [bl_append] at hpa2; omega
            refine ⟨p ++ prs ++ q2, 0, -1, .inr (.inr (.inr (.inr ⟨hr, rfl, rfl, p, y, q2, hpq2, by rw [hpa], by rw [hy], ?_, rfl⟩)))⟩
            have := congrArg bl hpq2
            simp only [bl_append] at this
            omega
          · subst hy1
            have hy : bl y = 0 ∧ b = 0 := by rw [bl_append] at hpa; omega
            have hbp : bl p2 = a := by omega
            refine ⟨p2 ++ prs ++ q2, 0, -1, .inr (.inr (.inr (.inr ⟨hr, rfl, rfl, p2, [], q2, by simpa using hpq2, by rw [hbp], by simp [hy.2], ?_, rfl⟩)))⟩
            have := congrArg bl hpq2
            simp only [bl_append] at this
            omega
  · exact ⟨R, 3, bl prs, .inl ⟨hr, rfl, rfl, rfl⟩⟩
theorem SplR.all {R R' prs : List Int} {x d k pl : Int} {rest : U.Bs} (h : SplR R x d prs rest R' k pl) (hR : U.AllR R) (hp : U.AllR prs) : U.AllR R' := by
  rcases h with ⟨-, rfl, -⟩ | ⟨-, rfl, -⟩ | ⟨-, rfl, -⟩ | ⟨-, rfl, -⟩ | ⟨-, -, -, P, D, Q, rfl, -, -, -, rfl⟩
  · exact hR
  · exact hR
  · exact hR
  · exact hR
  · intro r hr
    simp only [List.mem_append] at hr
    rcases hr with (hr | hr) | hr
    · exact hR r (by simp [hr])
    · exact hp r hr
    · exact hR r (by simp [hr])
theorem SplR.size {R R' prs : List Int} {x d k pl : Int} {rest : U.Bs} (h : SplR R x d prs rest R' k pl) (hR : bl R ≤ 8000) : bl R' ≤ 8000 := by
  rcases h with ⟨-, rfl, -⟩ | ⟨-, rfl, -⟩ | ⟨-, rfl, -⟩ | ⟨-, rfl, -⟩ | ⟨-, -, -, P, D, Q, rfl, -, -, hs, rfl⟩
  · exact hR
  · exact hR
  · exact hR
  · exact hR
  · simp only [bl_append]; omega
theorem spl_end {w5 : World} {B : Nat} {x y : Value} (h : Blk w5 B 25 #[x, y]) (k pl : Int) :
    ((w5.setCell ⟨B, 0, none⟩ (.int .i64 k)).setCell ⟨B, 1, none⟩ (.int .i64 pl)).cell? ⟨B, 0, none⟩ = some (.int .i64 k) ∧ ((w5.setCell ⟨B, 0, none⟩ (.int .i64 k)).setCell ⟨B, 1, none⟩ (.int .i64 pl)).cell? ⟨B, 1, none⟩ = some (.int .i64 pl) := by
  have h2 := (h.set_ 0 (.int .i64 k)).set_ 1 (.int .i64 pl)
  have f0 := h2.cell 0
  have f1 := h2.cell 1
  simp only [List.setIfInBounds_toArray, List.set_cons_zero, List.set_cons_succ, List.getElem?_toArray, List.getElem?_cons_zero, List.getElem?_cons_succ] at f0 f1
  exact ⟨f0, f1⟩
theorem spl_end2 {w1 : World} {B : Nat} {x y : Value} {o1 o2 : Obj} (h : Blk w1 B 25 #[x, y]) (k pl : Int) :
    ((((w1.setCell ⟨B, 0, none⟩ (.int .i64 k)).setCell ⟨B, 1, none⟩ (.int .i64 pl)).alloc o1).alloc o2).cell? ⟨B, 0, none⟩ = some (.int .i64 k) ∧ ((((w1.setCell ⟨B, 0, none⟩ (.int .i64 k)).setCell ⟨B, 1, none⟩ (.int .i64 pl)).alloc o1).alloc o2).cell? ⟨B, 1, none⟩ = some (.int .i64 pl) := by
  have h2 := (((h.set_ 0 (.int .i64 k)).set_ 1 (.int .i64 pl)).alloc o1).alloc o2
  have f0 := h2.cell 0
  have f1 := h2.cell 1
  simp only [List.setIfInBounds_toArray, List.set_cons_zero, List.set_cons_succ, List.getElem?_toArray, List.getElem?_cons_zero, List.getElem?_cons_succ] at f0 f1
  exact ⟨f0, f1⟩
theorem spl_below {w w5 : World} {x y : Value} (h : Below w.heap.size w w5) : Below w.heap.size w ((w5.setCell ⟨w.heap.size, 0, none⟩ x).setCell ⟨w.heap.size, 1, none⟩ y) :=
  (h.setCell (p := ⟨w.heap.size, 0, none⟩) (Nat.le_refl _) _).setCell (p := ⟨w.heap.size, 1, none⟩) (Nat.le_refl _) _
set_option maxHeartbeats 8000000 in
theorem rsplice_calls {R R' prs : List Int} {x d k pl : Int} {rest put : U.Bs} {w : World} (h : SplR R x d prs rest R' k pl) (hA : U.AllR R) (hs : U.Sp put prs rest) (hR : bl R ≤ 8000) (hl : put.length ≤ 1000000) :
    Calls Tryd.prog 41 #[.string ⟨(U.encs R).toArray⟩, .int .i64 x, .int .i64 d, .string ⟨put.toArray⟩] w fun e w' => e = .returned (.tuple #[.string ⟨(U.encs R').toArray⟩, fltV k pl]) ∧ Below w.heap.size w w' := by
  have HC := fun w1 => Hd.mk (rcount_calls hs w1 (by omega))
  have HP := Hd.mk hs
  have hlen : (U.encs R).length = bl R := rfl
  have HZ0 : Hd (Blk (w.alloc (.cells #[.int .i64 0, .int .i64 0] 25)) w.heap.size 25 #[.int .i64 0, .int .i64 0]) := ⟨Blk.new _ _ _⟩
  obtain ⟨n, hn⟩ : ∃ n, n = bl R := ⟨_, rfl⟩
  rw [← hn] at hlen hR
  unfold fltV
  rcases h with ⟨hne, rfl, rfl, rfl⟩ | ⟨rfl, rfl, rfl, rfl, hc⟩ | ⟨rfl, rfl, rfl, rfl, a, b, rfl, rfl, hab, hE⟩ | ⟨rfl, rfl, rfl, rfl, a, b, rfl, rfl, hab, hE, hf⟩ | ⟨rfl, rfl, rfl, P, D, Q, hPQ, rfl, rfl, hs2, rfl⟩
  · have HNE := Hd.mk hne
    have HRW : Hd (((U.off prs prs.length : Nat) : Int) = (bl prs : Int)) := ⟨by rw [U.off_full]; rfl⟩
    clear hs hne hn
    go_enter Tryd.func41, Tryd.ntmps41
    go_wp2_with (first
      | (go_at_call 18; refine (HC _).out.mono ?_; rintro e w1 ⟨hb1, -, he⟩; obtain rfl := he HNE.out; have hz := HZ0.out.below hb1 HZ0.out.lt; have HZ1 := Hd.mk hz; have r0 := hz.cell 0; have r1 := hz.cell 1; have rf := hz.frozen; have rl := hz.lt; simp only [List.getElem?_toArray, List.getElem?_cons_zero, List.getElem?_cons_succ] at r0 r1; clear hz; have HB1 := Hd.mk (bstep (ex_alloc (Below.refl _ _) _) hb1); clear hb1 he; unfold fltV))
    rw [HRW.out] at *
    go_region
    all_goals
      go_wp2_with fail
      obtain ⟨f0, f1⟩ := spl_end2 (o1 := .cells #[.int .i64 Cn.zero.b, .int .i64 Cn.zero.h, .int .i64 Cn.zero.r, .int .i64 Cn.zero.l] 36) (o2 := .cells #[.int .i64 3, .int .i64 (bl prs)] 25) HZ1.out (3) (bl prs)
      refine bodyPost_ret (v := .tuple #[.string ⟨(U.encs R').toArray⟩, .agg #[.int .i64 (3), .int .i64 (bl prs)]]) (by simp [results, Tryd.results41, go_sem, f0, f1]) rfl ?_
      exact ⟨rfl, ex_drew (ex_alloc (ex_alloc (spl_below HB1.out) _) _)⟩
  · have HRR := Hd.mk hn
    by_cases h1 : 0 ≤ x ∧ x ≤ (n : Int)
    · have h2 : ¬ (0 ≤ d ∧ d ≤ (n : Int) - x) := by omega
      clear hc hs hn
      have g1 := h1
      obtain ⟨h3, h4⟩ := h1
      go_enter Tryd.func41, Tryd.ntmps41
      go_wp2_with (first
        | (go_at_call 18; refine (HC _).out.mono ?_; rintro e w1 ⟨hb1, he, -⟩; obtain rfl := he rfl; have HZ1 := Hd.mk (HZ0.out.below hb1 HZ0.out.lt); have HB1 := Hd.mk (bstep (ex_alloc (Below.refl _ _) _) hb1); clear hb1 he; unfold fltV)
        | (go_at_call_of 87 (Value.int .i64 x); refine (inT g1 _).mono ?_; rintro e w3 ⟨rfl, rfl⟩)
        | (go_at_call 87; refine (inF h2 _).mono ?_; rintro e w3 ⟨rfl, rfl⟩)
        | (go_at_call 70; refine (bareR_calls _ _).mono ?_; rintro e w5 ⟨rfl, hb5⟩; have hz := HZ1.out.below (bstep (ex_alloc (ex_alloc (Below.refl _ _) _) _) hb5) HZ1.out.lt; have HZ5 := Hd.mk hz; have r0 := hz.cell 0; have r1 := hz.cell 1; have rf := hz.frozen; have rl := hz.lt; simp only [List.getElem?_toArray, List.getElem?_cons_zero, List.getElem?_cons_succ] at r0 r1; have HB5 := Hd.mk (bstep (ex_alloc (ex_alloc HB1.out _) _) hb5); clear hb5 hz))
      obtain ⟨f0, f1⟩ := spl_end HZ5.out (2) (-1)
      refine bodyPost_ret (v := .tuple #[.string ⟨(U.encs R').toArray⟩, .agg #[.int .i64 (2), .int .i64 (-1)]]) (by simp [results, Tryd.results41, go_sem, f0, f1]) rfl ?_
      exact ⟨rfl, spl_below HB5.out⟩
    · clear hc hs hn
      go_enter Tryd.func41, Tryd.ntmps41
      go_wp2_with (first
        | (go_at_call 18; refine (HC _).out.mono ?_; rintro e w1 ⟨hb1, he, -⟩; obtain rfl := he rfl; have HZ1 := Hd.mk (HZ0.out.below hb1 HZ0.out.lt); have HB1 := Hd.mk (bstep (ex_alloc (Below.refl _ _) _) hb1); clear hb1 he; unfold fltV)
        | (go_at_call 87; refine (inF h1 _).mono ?_; rintro e w3 ⟨rfl, rfl⟩)
        | (go_at_call 70; refine (bareR_calls _ _).mono ?_; rintro e w5 ⟨rfl, hb5⟩; have hz := HZ1.out.below (bstep (ex_alloc (ex_alloc (Below.refl _ _) _) _) hb5) HZ1.out.lt; have HZ5 := Hd.mk hz; have r0 := hz.cell 0; have r1 := hz.cell 1; have rf := hz.frozen; have rl := hz.lt; simp only [List.getElem?_toArray, List.getElem?_cons_zero, List.getElem?_cons_succ] at r0 r1; have HB5 := Hd.mk (bstep (ex_alloc (ex_alloc HB1.out _) _) hb5); clear hb5 hz))
      obtain ⟨f0, f1⟩ := spl_end HZ5.out (2) (-1)
      refine bodyPost_ret (v := .tuple #[.string ⟨(U.encs R').toArray⟩, .agg #[.int .i64 (2), .int .i64 (-1)]]) (by simp [results, Tryd.results41, go_sem, f0, f1]) rfl ?_
      exact ⟨rfl, spl_below HB5.out⟩
  · rw [← hn] at hab
    have g1 : 0 ≤ (a : Int) ∧ (a : Int) ≤ (n : Int) := by omega
    have g2 : 0 ≤ (b : Int) ∧ (b : Int) ≤ (n : Int) - (a : Int) := by omega
    have HAD : Hd ((a : Int) + (b : Int) = ((a + b : Nat) : Int)) := ⟨by omega⟩
    cases h0 : redg (U.encs R') a
    · have HE1 := Hd.mk h0
      clear h0 hE hs hn
      go_enter Tryd.func41, Tryd.ntmps41
      go_wp2_with (first
        | (go_at_call 18; refine (HC _).out.mono ?_; rintro e w1 ⟨hb1, he, -⟩; obtain rfl := he rfl; have HZ1 := Hd.mk (HZ0.out.below hb1 HZ0.out.lt); have HB1 := Hd.mk (bstep (ex_alloc (Below.refl _ _) _) hb1); clear hb1 he; unfold fltV)
        | (go_at_call_of 87 (Value.int .i64 (a : Int)); refine (inT g1 _).mono ?_; rintro e w3 ⟨rfl, rfl⟩)
        | (go_at_call 87; refine (inT g2 _).mono ?_; rintro e w3 ⟨rfl, rfl⟩)
        | (go_at_call_of 78 (Value.int .i64 (a : Int)); refine (redge_calls _ a _ (by rw [hlen]; omega)).mono ?_; rintro e w3 ⟨he, rfl⟩; rw [edg_redg, HE1.out] at he; obtain rfl := he)
        | (go_at_call 70; refine (bareR_calls _ _).mono ?_; rintro e w5 ⟨rfl, hb5⟩; have hz := HZ1.out.below (bstep (ex_alloc (ex_alloc (Below.refl _ _) _) _) hb5) HZ1.out.lt; have HZ5 := Hd.mk hz; have r0 := hz.cell 0; have r1 := hz.cell 1; have rf := hz.frozen; have rl := hz.lt; simp only [List.getElem?_toArray, List.getElem?_cons_zero, List.getElem?_cons_succ] at r0 r1; have HB5 := Hd.mk (bstep (ex_alloc (ex_alloc HB1.out _) _) hb5); clear hb5 hz))
      obtain ⟨f0, f1⟩ := spl_end HZ5.out (1) (-1)
      refine bodyPost_ret (v := .tuple #[.string ⟨(U.encs R').toArray⟩, .agg #[.int .i64 (1), .int .i64 (-1)]]) (by simp [results, Tryd.results41, go_sem, f0, f1]) rfl ?_
      exact ⟨rfl, spl_below HB5.out⟩
    · have h9 : redg (U.encs R') (a + b) = false := by rw [h0, Bool.true_and] at hE; exact hE
      have HE1 := Hd.mk h0
      have HE2 := Hd.mk h9
      clear h0 h9 hE hs hn
      go_enter Tryd.func41, Tryd.ntmps41
      go_wp2_with (first
        | (go_at_call 18; refine (HC _).out.mono ?_; rintro e w1 ⟨hb1, he, -⟩; obtain rfl := he rfl; have HZ1 := Hd.mk (HZ0.out.below hb1 HZ0.out.lt); have HB1 := Hd.mk (bstep (ex_alloc (Below.refl _ _) _) hb1); clear hb1 he; unfold fltV)
        | (go_at_call_of 87 (Value.int .i64 (a : Int)); refine (inT g1 _).mono ?_; rintro e w3 ⟨rfl, rfl⟩)
        | (go_at_call 87; refine (inT g2 _).mono ?_; rintro e w3 ⟨rfl, rfl⟩)
        | (go_at_call_of 78 (Value.int .i64 (a : Int)); refine (redge_calls _ a _ (by rw [hlen]; omega)).mono ?_; rintro e w3 ⟨he, rfl⟩; rw [edg_redg, HE1.out] at he; obtain rfl := he)
        | (go_at_call 78; rw [HAD.out]; refine (redge_calls _ (a + b) _ (by rw [hlen]; omega)).mono ?_; rintro e w3 ⟨he, rfl⟩; rw [edg_redg, HE2.out] at he; obtain rfl := he)
        | (go_at_call 70; refine (bareR_calls _ _).mono ?_; rintro e w5 ⟨rfl, hb5⟩; have hz := HZ1.out.below (bstep (ex_alloc (ex_alloc (Below.refl _ _) _) _) hb5) HZ1.out.lt; have HZ5 := Hd.mk hz; have r0 := hz.cell 0; have r1 := hz.cell 1; have rf := hz.frozen; have rl := hz.lt; simp only [List.getElem?_toArray, List.getElem?_cons_zero, List.getElem?_cons_succ] at r0 r1; have HB5 := Hd.mk (bstep (ex_alloc (ex_alloc HB1.out _) _) hb5); clear hb5 hz))
      obtain ⟨f0, f1⟩ := spl_end HZ5.out (1) (-1)
      refine bodyPost_ret (v := .tuple #[.string ⟨(U.encs R').toArray⟩, .agg #[.int .i64 (1), .int .i64 (-1)]]) (by simp [results, Tryd.results41, go_sem, f0, f1]) rfl ?_
      exact ⟨rfl, spl_below HB5.out⟩
  · rw [← hn] at hab hf
    have g1 : 0 ≤ (a : Int) ∧ (a : Int) ≤ (n : Int) := by omega
    have g2 : 0 ≤ (b : Int) ∧ (b : Int) ≤ (n : Int) - (a : Int) := by omega
    have HAD : Hd ((a : Int) + (b : Int) = ((a + b : Nat) : Int)) := ⟨by omega⟩
    obtain ⟨h0, h9⟩ := Bool.and_eq_true_iff.1 hE
    have HE1 := Hd.mk h0
    have HE2 := Hd.mk h9
    have hlp : put.length = bl prs := by have := hs.eq; rw [List.append_nil] at this; rw [this]; rfl
    have hf2 : (8000 : Int) < (n : Int) - (b : Int) + (put.length : Int) := by omega
    clear h0 h9 hE hs hn hf hlp
    go_enter Tryd.func41, Tryd.ntmps41
    go_wp2_with (first
      | (go_at_call 18; refine (HC _).out.mono ?_; rintro e w1 ⟨hb1, he, -⟩; obtain rfl := he rfl; have HZ1 := Hd.mk (HZ0.out.below hb1 HZ0.out.lt); have HB1 := Hd.mk (bstep (ex_alloc (Below.refl _ _) _) hb1); clear hb1 he; unfold fltV)
      | (go_at_call_of 87 (Value.int .i64 (a : Int)); refine (inT g1 _).mono ?_; rintro e w3 ⟨rfl, rfl⟩)
      | (go_at_call 87; refine (inT g2 _).mono ?_; rintro e w3 ⟨rfl, rfl⟩)
      | (go_at_call_of 78 (Value.int .i64 (a : Int)); refine (redge_calls _ a _ (by rw [hlen]; omega)).mono ?_; rintro e w3 ⟨he, rfl⟩; rw [edg_redg, HE1.out] at he; obtain rfl := he)
      | (go_at_call 78; rw [HAD.out]; refine (redge_calls _ (a + b) _ (by rw [hlen]; omega)).mono ?_; rintro e w3 ⟨he, rfl⟩; rw [edg_redg, HE2.out] at he; obtain rfl := he)
      | (go_at_call 70; refine (bareR_calls _ _).mono ?_; rintro e w5 ⟨rfl, hb5⟩; have hz := HZ1.out.below (bstep (ex_alloc (ex_alloc (Below.refl _ _) _) _) hb5) HZ1.out.lt; have HZ5 := Hd.mk hz; have r0 := hz.cell 0; have r1 := hz.cell 1; have rf := hz.frozen; have rl := hz.lt; simp only [List.getElem?_toArray, List.getElem?_cons_zero, List.getElem?_cons_succ] at r0 r1; have HB5 := Hd.mk (bstep (ex_alloc (ex_alloc HB1.out _) _) hb5); clear hb5 hz))
    obtain ⟨f0, f1⟩ := spl_end HZ5.out (12) (-1)
    refine bodyPost_ret (v := .tuple #[.string ⟨(U.encs R').toArray⟩, .agg #[.int .i64 (12), .int .i64 (-1)]]) (by simp [results, Tryd.results41, go_sem, f0, f1]) rfl ?_
    exact ⟨rfl, spl_below HB5.out⟩
  · obtain ⟨S, hS⟩ : ∃ S, S = P ++ prs ++ Q := ⟨_, rfl⟩
    have HSE := Hd.mk hS
    have HPQ := Hd.mk hPQ
    rw [← hS]
    obtain ⟨a, ha⟩ : ∃ a, a = bl P := ⟨_, rfl⟩
    obtain ⟨b, hb⟩ : ∃ b, b = bl D := ⟨_, rfl⟩
    have hnn : n = a + b + bl Q := by rw [hn, ha, hb, hPQ]; simp only [bl_append]
    have hab : a + b ≤ n := by omega
    have g1 : 0 ≤ (a : Int) ∧ (a : Int) ≤ (n : Int) := by omega
    have g2 : 0 ≤ (b : Int) ∧ (b : Int) ≤ (n : Int) - (a : Int) := by omega
    have HAD : Hd ((a : Int) + (b : Int) = ((a + b : Nat) : Int)) := ⟨by omega⟩
    have hE1 : redg (U.encs R) a = true := (redg_iff hA (by omega)).2 ⟨P, D ++ Q, by rw [hPQ, List.append_assoc], ha.symm⟩
    have hE2 : redg (U.encs R) (a + b) = true := (redg_iff hA (by omega)).2 ⟨P ++ D, Q, hPQ, by rw [bl_append, ha, hb]⟩
    have HE1 := Hd.mk hE1
    have HE2 := Hd.mk hE2
    have hlp : put.length = bl prs := by have := hs.eq; rw [List.append_nil] at this; rw [this]; rfl
    have HPU : Hd (put = U.encs prs) := ⟨by have := hs.eq; rw [List.append_nil] at this; exact this⟩
    have hf2 : ¬ ((8000 : Int) < (n : Int) - (b : Int) + (put.length : Int)) := by omega
    have hpl : (put.length : Int) ≤ 8000 := by omega
    have e1 : (ByteArray.mk (U.encs R).toArray).extract 0 a = ⟨(U.encs P).toArray⟩ := by
      rw [ext_take0 (by rw [hlen]; omega), hPQ, U.encs_append, U.encs_append, List.append_assoc, ha]
      unfold bl; rw [List.take_left]
    have e2 : (ByteArray.mk (U.encs R).toArray).extract (a + b) n = ⟨(U.encs Q).toArray⟩ := by
      rw [← hlen, ext_drop, hPQ, U.encs_append, U.encs_append, ha, hb]
      unfold bl; rw [← List.length_append, List.drop_left]
    have HE3 := Hd.mk e1
    have HE4 := Hd.mk e2
    rw [← ha, ← hb]
    clear hE1 hE2 hs hn hnn ha hb hlp hs2 e1 e2 HP hS hPQ
    go_enter Tryd.func41, Tryd.ntmps41
    go_wp2_with (first
      | (go_at_call 18; refine (HC _).out.mono ?_; rintro e w1 ⟨hb1, he, -⟩; obtain rfl := he rfl; have HZ1 := Hd.mk (HZ0.out.below hb1 HZ0.out.lt); have HB1 := Hd.mk (bstep (ex_alloc (Below.refl _ _) _) hb1); clear hb1 he; unfold fltV)
      | (go_at_call_of 87 (Value.int .i64 (a : Int)); refine (inT g1 _).mono ?_; rintro e w3 ⟨rfl, rfl⟩)
      | (go_at_call 87; refine (inT g2 _).mono ?_; rintro e w3 ⟨rfl, rfl⟩)
      | (go_at_call_of 78 (Value.int .i64 (a : Int)); refine (redge_calls _ a _ (by rw [hlen]; omega)).mono ?_; rintro e w3 ⟨he, rfl⟩; rw [edg_redg, HE1.out] at he; obtain rfl := he)
      | (go_at_call 78; rw [HAD.out]; refine (redge_calls _ (a + b) _ (by rw [hlen]; omega)).mono ?_; rintro e w3 ⟨he, rfl⟩; rw [edg_redg, HE2.out] at he; obtain rfl := he))
    have hw1 : IntKind.i64.wrap ((a : Int) + (b : Int)) = (a : Int) + (b : Int) := by rw [IntKind.wrap_i64] <;> omega
    go_region_with (go_at_call 70; refine (bareR_calls _ _).mono ?_; rintro e w5 ⟨rfl, hb5⟩; have hz := HZ1.out.below (bstep (ex_drew (ex_alloc (ex_alloc (Below.refl _ _) _) _)) hb5) HZ1.out.lt; have HZ5 := Hd.mk hz; have r0 := hz.cell 0; have r1 := hz.cell 1; have rf := hz.frozen; have rl := hz.lt; simp only [List.getElem?_toArray, List.getElem?_cons_zero, List.getElem?_cons_succ] at r0 r1; have HB5 := Hd.mk (bstep (ex_drew (ex_alloc (ex_alloc HB1.out _) _)) hb5); clear hb5 hz)
    all_goals
      go_wp2_with fail
      obtain ⟨f0, f1⟩ := spl_end HZ5.out (0) (-1)
      refine bodyPost_ret (v := .tuple #[.string ⟨(U.encs S).toArray⟩, .agg #[.int .i64 (0), .int .i64 (-1)]]) ?_ rfl ?_
      · simp [results, Tryd.results41, go_sem, f0, f1]
        rw [HE3.out, HE4.out, HPU.out, HSE.out, str_append, str_append, U.encs_append, U.encs_append]
      · exact ⟨rfl, spl_below HB5.out⟩
end Go.Proofs.YtgokmldngnmmhaaDoor
/- Splice, whatever comes of it. -/
namespace Go.Proofs.YtgokmldngnmmhaaDoor
open Go.RowKit
set_option maxRecDepth 100000
/-- What a Splice leaves: the rope of the runes R', in its own blocks and new ones. -/
structure SplW (w w' : World) (p : Nat) (t t' : RT) (R' : List Int) : Prop where
  runes : t'.runes = R'
  good : Good t'
  at_ : AtR w' p t'
  sub : ∀ i ∈ t'.blocks, i ∈ t.blocks ∨ w.heap.size ≤ i
  only : Only (fun i => i = p ∨ i ∈ t.blocks) w w'
theorem SplW.of_below {w w' : World} {p : Nat} {t : RT} (h : AtR w p t) (hg : Good t) (hb : Below w.heap.size w w') : SplW w w' p t t t.runes :=
  ⟨rfl, hg, h.below hb, fun _ h => .inl h, Only.of_below hb⟩
theorem splice_all {p : Nat} {t : RT} {w : World} {R' prs : List Int} {rest put : U.Bs} {x d k pl : Int} (h : AtR w p t) (hg : Good t) (hS : SplR t.runes x d prs rest R' k pl) (hs : U.Sp put prs rest) (hl : put.length ≤ 1000000) :
    Calls Tryd.prog 42 #[.pointer (some ⟨p, 0, none⟩), .int .i64 x, .int .i64 d, .string ⟨put.toArray⟩] w fun e w' => ∃ v t', e = .returned v ∧ ErrV w' v k pl ∧ SplW w w' p t t' R' := by
  have hlp : rest = [] → put = U.encs prs := fun e => by have := hs.eq; rwa [e, List.append_nil] at this
  have hbl : rest = [] → bl prs ≤ 1000000 := fun e => by have := hlp e; unfold bl; rw [← this]; exact hl
  rcases hS with ⟨hne, rfl, rfl, rfl⟩ | ⟨he, rfl, rfl, rfl, hc⟩ | ⟨he, rfl, rfl, rfl, a, b, rfl, rfl, hab, hE⟩ | ⟨he, rfl, rfl, rfl, a, b, rfl, rfl, hab, hE, hf⟩ | ⟨he, rfl, rfl, P, D, Q, hPQ, rfl, rfl, hs2, rfl⟩
  · refine (splice_form h hs hne hl).mono ?_
    rintro e w' ⟨hb, g, rfl, hat⟩
    exact ⟨_, t, rfl, .at_ g _ _ hat, .of_below h hg hb⟩
  · rw [hlp he]
    refine (splice_refuse h hg hs.all (hbl he) (.inl ⟨hc, rfl⟩)).mono ?_
    rintro e w' ⟨rfl, hb⟩
    exact ⟨_, t, rfl, .no _, .of_below h hg hb⟩
  · rw [hlp he]
    refine (splice_refuse h hg hs.all (hbl he) (.inr (.inl ⟨a, b, rfl, rfl, hab, hE, rfl⟩))).mono ?_
    rintro e w' ⟨rfl, hb⟩
    exact ⟨_, t, rfl, .no _, .of_below h hg hb⟩
  · rw [hlp he]
    refine (splice_refuse h hg hs.all (hbl he) (.inr (.inr ⟨a, b, rfl, rfl, hab, hE, hf, rfl⟩))).mono ?_
    rintro e w' ⟨rfl, hb⟩
    exact ⟨_, t, rfl, .no _, .of_below h hg hb⟩
  · rw [hlp he]
    refine (splice_ok h hg hPQ hs.all hs2).mono ?_
    rintro e w' ⟨rfl, t', hr, hg', hL⟩
    exact ⟨_, t', rfl, .nil, ⟨hr, hg', hL.at_, hL.sub, hL.only⟩⟩
end Go.Proofs.YtgokmldngnmmhaaDoor
/- ref.Edges. -/
namespace Go.Proofs.YtgokmldngnmmhaaDoor
open Go.RowKit
set_option maxRecDepth 100000
abbrev Cn.cells (x : Cn) : List Value := [.int .i64 x.b, .int .i64 x.h, .int .i64 x.r, .int .i64 x.l]
def cnv (l : List Cn) : List Value := l.flatMap Cn.cells
theorem cnv_append (a b : List Cn) : cnv (a ++ b) = cnv a ++ cnv b := by unfold cnv; rw [List.flatMap_append]
theorem cnv_one (x : Cn) : cnv [x] = x.cells := by simp [cnv]
theorem cnv_length (l : List Cn) : (cnv l).length = l.length * 4 := by
  unfold cnv
  induction l with
  | nil => rfl
  | cons p l ih => rw [List.flatMap_cons, List.length_append, ih]; simp; omega
/-- The counts ahead of each rune, and of all. -/
def edgs (rs : List Int) : Nat → List Cn
  | 0 => [Cn.zero]
  | k + 1 => edgs rs k ++ [cnt (rs.take (k + 1))]
theorem edgs_length (rs : List Int) (k : Nat) : (edgs rs k).length = k + 1 := by
  induction k with
  | zero => rfl
  | succ k ih => rw [edgs, List.length_append, ih]; rfl
theorem edgs_at (rs : List Int) {k j : Nat} (h : j ≤ k) : (edgs rs k)[j]? = some (cnt (rs.take j)) := by
  induction k with
  | zero =>
    obtain rfl : j = 0 := by omega
    rfl
  | succ k ih =>
    rw [edgs]
    by_cases hj : j ≤ k
    · rw [List.getElem?_append_left (by rw [edgs_length]; omega)]; exact ih hj
    · obtain rfl : j = k + 1 := by omega
      rw [List.getElem?_append_right (by rw [edgs_length]; omega), edgs_length, Nat.sub_self]; rfl
theorem el_cn : El Tryd.prog 45 36 4 32 := El.mk' Tryd.underlying45 (by kernel_rfl) (by decide)
theorem sp_take {rs : List Int} (h : U.AllR rs) (k : Nat) : U.Sp (U.encs (rs.take k)) (rs.take k) [] := ⟨fun r hr => h r (List.mem_of_mem_take hr), by rw [List.append_nil], by rfl⟩
theorem off_take (rs : List Int) (k : Nat) : (U.encs rs).take (U.off rs k) = U.encs (rs.take k) := by
  have e : U.encs rs = U.encs (rs.take k) ++ U.encs (rs.drop k) := by rw [← U.encs_append, List.take_append_drop]
  unfold U.off
  rw [e]
  exact List.take_left
theorem own_one {w : World} {x : Cn} : (w.alloc (.cells #[.int .i64 x.b, .int .i64 x.h, .int .i64 x.r, .int .i64 x.l] 36)).ownsRow w.heap.size 36 4 (.slice (some ⟨w.heap.size, 0, none⟩) 1 1) 1 (cnv [x]) :=
  ⟨by rw [cnv_length]; rfl, .inr ⟨w.heap.size, 1, _, rfl, Nat.le_refl _, Blk.new _ _ _, Nat.le_refl _, by unfold maxLen; omega, rfl, by simp [cnv]⟩⟩
section
attribute [local go_sem] ext_take
set_option maxHeartbeats 8000000 in
theorem redges_calls {rs : List Int} {s : U.Bs} {w : World} (hall : U.AllR rs) (hse : s = U.encs rs) (hs : s.length ≤ 1000000) :
    Calls Tryd.prog 23 #[.string ⟨s.toArray⟩] w fun e w' => (∃ v, e = .returned v ∧ Sl w' 4 v (rs.length + 1) (cnv (edgs rs rs.length))) ∧ Below w.heap.size w w' := by
  have HS : Hd (U.Sp s rs []) := ⟨⟨hall, by rw [hse, List.append_nil], by rfl⟩⟩
  have HA := Hd.mk hall
  have hlen := HS.out.length
  have hll := U.len_le_off rs
  have hrl : rs.length ≤ 1000000 := by simp at hlen; omega
  have hol : U.off rs rs.length = s.length := by simp at hlen; omega
  have HSE := Hd.mk hse
  clear hse hlen hll
  go_enter Tryd.func23, Tryd.ntmps23
  go_wp2_with fail
  refine (rrunes_calls HS.out _ (by omega)).mono ?_
  rintro e w1 ⟨hb1, hok, _⟩
  obtain ⟨v, rfl, hsl⟩ := hok rfl
  have HSL := Hd.mk hsl
  have HB1 := Hd.mk hb1
  obtain ⟨A, c, rfl, -⟩ := hsl
  unfold fltV
  clear hok hb1
  go_wp2_with fail
  have HOWN : Hd (((w1.alloc (.cells #[.int .i64 0, .int .i64 (-1)] 25)).alloc (.cells #[.int .i64 0, .int .i64 0, .int .i64 0, .int .i64 0] 36)).ownsRow w1.heap.size 36 4 (.slice (some ⟨w1.heap.size + 1, 0, none⟩) 1 1) 1 (cnv (edgs rs 0))) := ⟨by
    have := own_one (w := w1.alloc (.cells #[.int .i64 0, .int .i64 (-1)] 25)) (x := Cn.zero)
    rw [World.size_alloc] at this
    exact own_mono this (by omega)⟩
  go_loopw [5, 6, 20] (fun out at_ i wr => ∃ k a : Nat, k ≤ rs.length ∧ i = .int .i64 k ∧ at_ = .int .i64 a ∧ a = U.off rs k ∧ wr.ownsRow w1.heap.size 36 4 out (k + 1) (cnv (edgs rs k)) ∧ Below w1.heap.size w1 wr) (fun _ _ i _ => rs.length - (intOf i).toNat)
  case atStart => exact ⟨0, 0, by omega, rfl, rfl, rfl, HOWN.out, ex_alloc (ex_alloc (Below.refl _ _) _) _⟩
  case round =>
    obtain ⟨k, a, hk, rfl, rfl, ha, hown, hbel⟩ := hrel
    have HB := Hd.mk hbel
    have HOW := Hd.mk hown
    obtain ⟨Ao, co, rfl⟩ := own_form hown
    have hsz := hbel.size
    by_cases hkn : k < rs.length
    · obtain ⟨ad, c', u, hv, hlt, hu, hc⟩ := (HSL.out.below hbel).at_ hkn
      cases hv
      have hu2 : u = .int .i32 rs[k] := by
        unfold i32s at hu
        rw [List.getElem?_map, List.getElem?_eq_getElem hkn] at hu
        simpa using hu.symm
      subst hu2
      have HRR := Hd.mk (HA.out _ (List.getElem_mem hkn))
      have hos := U.off_succ hkn
      have hol2 : U.off rs (k + 1) ≤ U.off rs rs.length := U.off_le (by omega)
      have hel := U.enc_length rs[k]
      have HSP := Hd.mk (sp_take HA.out (k + 1))
      have HTK : Hd (s.take (a + (U.enc rs[k]).length) = U.encs (rs.take (k + 1))) := ⟨by rw [hel, ha, ← hos, HSE.out, off_take]⟩
      have HAK : Hd (a + (U.enc rs[k]).length = U.off rs (k + 1)) := ⟨by rw [hel, ha, ← hos]⟩
      have hlt2 : a + (U.enc rs[k]).length ≤ s.length := by omega
      have HTL : Hd ((U.encs (rs.take (k + 1))).length ≤ 1000000) := ⟨by rw [← HTK.out, List.length_take]; omega⟩
      generalize rs[k] = r at *
      have HED : Hd (cnv (edgs rs (k + 1)) = cnv (edgs rs k) ++ (#[.int .i64 (cnt (rs.take (k + 1))).b, .int .i64 (cnt (rs.take (k + 1))).h, .int .i64 (cnt (rs.take (k + 1))).r, .int .i64 (cnt (rs.take (k + 1))).l] : Array Value).toList) := ⟨by rw [edgs, cnv_append, cnv_one]⟩
      clear hown hbel hu ha hos hel
      go_wp2_with fail
      refine (bytes_calls r _ HRR.out).mono ?_
      rintro e w2 ⟨rfl, hb2⟩
      have HB2 := Hd.mk (HB.out.trans (hb2.mono hsz))
      have HO2 := Hd.mk (own_only HOW.out (Only.of_below (S := fun _ => False) hb2) (fun _ _ h => h))
      clear hb2
      go_wp2_with fail
      rw [HTK.out]
      refine (rcount_calls HSP.out _ (by have := HTL.out; omega)).mono ?_
      rintro e w3 ⟨hb3, hok3, _⟩
      obtain rfl := hok3 rfl
      have HB3 := Hd.mk (HB2.out.trans (hb3.mono HB2.out.size))
      have HO3 := Hd.mk (own_only HO2.out (Only.of_below (S := fun _ => False) hb3) (fun _ _ h => h))
      have hz3 := HB3.out.size
      clear hb3 hok3
      unfold fltV
      generalize cnt (rs.take (k + 1)) = cc at *
      go_wp2_with (at_builtin; refine append_lit' el_cn #[.int .i64 cc.b, .int .i64 cc.h, .int .i64 cc.r, .int .i64 cc.l] (by repeat (first | exact HO3.out | apply World.ownsRow.alloc)) rfl rfl rfl rfl (by simp) rfl (one4 rfl rfl rfl rfl) (by unfold maxLen; omega) (by omega) (by simp only [World.size_alloc]; omega) ?_; intro v9 w9 hown9 hbel9 hgr9 hnew9; obtain ⟨A9, k9, rfl⟩ := own_form hown9; have HO9 := Hd.mk hown9; have HB9 := Hd.mk hbel9; clear hown9 hbel9 hgr9 hnew9)
      exact ⟨⟨k + 1, a + (U.enc r).length, by omega, by go_num, by go_num, HAK.out, by rw [HED.out]; exact HO9.out, (by repeat (first | exact HB3.out | apply ex_alloc) : Below w1.heap.size w1 _).trans HB9.out⟩, by simp only [intOf]; omega⟩
    · obtain rfl : k = rs.length := by omega
      have HS9 := Hd.mk (Sl.of_own hown)
      clear hown hbel ha
      go_wp2_with fail
      go_ret
      exact ⟨⟨_, rfl, HS9.out⟩, bstep HB1.out HB.out⟩
end
end Go.Proofs.YtgokmldngnmmhaaDoor
/- Laws for a small map literal with int keys, in the block that was made last: an insert of a new key, and a look-up. Over any program. -/
namespace Go.Proofs.YtgokmldngnmmhaaDoor
section
open Go.Instr
variable {P : Program}
theorem checkKey_int {K : TypeId} {k : IntKind} (hK : P.underlying K = some (.int k)) (b : Bool) (n : Int) (w : World) :
    (checkKey b 10000 K (.int k n)).run P w = .ok () w := by
  show (checkKey b (9999 + 1) K (.int k n)).run P w = .ok () w
  unfold checkKey
  simp only [Sem.run_bind, run_underlying hK, Result.andThen]
  rfl
theorem findKey_int {K : TypeId} {k : IntKind} (hK : P.underlying K = some (.int k)) (n : Int) (es : List MapEntry) (r : Option (Nat × Value)) (h : findNow (.int k) (.int k n) es 0 = some r) (w : World) :
    (findKey K (.int k n) es).run P w = .ok r w := by
  simp [findKey, run_underlying hK, Result.andThen, h]
theorem set_push_last {α : Type} (a : Array α) (x y : α) (h : a.size < (a.push x).size) : (a.push x).set a.size y h = a.push y := by
  apply Array.ext
  · simp
  · intro i h1 h2
    simp only [Array.getElem_set, Array.getElem_push]
    by_cases e : a.size = i
    · subst e; simp
    · have h3 : i < a.size := by simp at h2; omega
      simp [e, h3]
theorem run_insert_last {t K E : TypeId} {k : IntKind} (ht : P.underlying t = some (.map K E)) (hK : P.underlying K = some (.int k)) (w : World) (es : Array MapEntry) (c : Nat) (n : Int) (v : Value)
    (hn : findNow (.int k) (.int k n) es.toList 0 = some none) :
    (mapUpdate t (.map (some w.heap.size)) (.int k n) v).run P (w.alloc (.map es c)) = .ok () (w.alloc (.map (es.push { key := .int k n, val := v, born := c }) (c + 1))) := by
  have hb : (w.alloc (.map es c)).heap[w.heap.size]? = some (.map es c) := heap_alloc_new w _
  simp [mapUpdate, run_underlying ht, MapKept.run_getObj_map hb, checkKey_int hK, findKey_int hK n es.toList none hn, MapKept.run_setObj_map _ hb, Result.andThen]
  have e : (w.alloc (.map es c)).heap.setIfInBounds w.heap.size (.map (es.push { key := .int k n, val := v, born := c }) (c + 1)) = w.heap.push (.map (es.push { key := .int k n, val := v, born := c }) (c + 1)) := by
    show (w.heap.push (.map es c)).setIfInBounds w.heap.size _ = _
    unfold Array.setIfInBounds
    rw [dif_pos (by simp), set_push_last]
  rw [e]
  rfl
theorem run_lookup_last {t K E : TypeId} {k : IntKind} (ht : P.underlying t = some (.map K E)) (hK : P.underlying K = some (.int k)) (w : World) (es : Array MapEntry) (c : Nat) (n : Int) (i : Nat) (v : Value)
    (hn : findNow (.int k) (.int k n) es.toList 0 = some (some (i, v))) :
    (lookup t (.map (some w.heap.size)) (.int k n) false).run P (w.alloc (.map es c)) = .ok v (w.alloc (.map es c)) := by
  have hb : (w.alloc (.map es c)).heap[w.heap.size]? = some (.map es c) := heap_alloc_new w _
  simp [lookup, run_underlying ht, MapKept.run_getObj_map hb, checkKey_int hK, findKey_int hK n es.toList _ hn, Result.andThen]
theorem run_lookup_last_none {t K E : TypeId} {k : IntKind} (ht : P.underlying t = some (.map K E)) (hK : P.underlying K = some (.int k)) (w : World) (es : Array MapEntry) (c : Nat) (n : Int) (z : Value)
    (hz : ∀ w : World, (zeroValue E).run P w = .ok z w)
    (hn : findNow (.int k) (.int k n) es.toList 0 = some none) :
    (lookup t (.map (some w.heap.size)) (.int k n) false).run P (w.alloc (.map es c)) = .ok z (w.alloc (.map es c)) := by
  have hb : (w.alloc (.map es c)).heap[w.heap.size]? = some (.map es c) := heap_alloc_new w _
  simp [lookup, run_underlying ht, MapKept.run_getObj_map hb, checkKey_int hK, findKey_int hK n es.toList _ hn, hz, Result.andThen]
end
end Go.Proofs.YtgokmldngnmmhaaDoor
/- The reference's In (a map literal, asked once). -/
namespace Go.Proofs.YtgokmldngnmmhaaDoor
open Go.RowKit
set_option maxRecDepth 100000
theorem zeroInt (w : World) : (zeroValue 3).run Tryd.prog w = .ok (.int .i64 0) w := by kernel_rfl
def refEs (x : Cn) : Array MapEntry := #[{ key := .int .i64 1, val := .int .i64 x.b, born := 0 }, { key := .int .i64 2, val := .int .i64 x.h, born := 1 }, { key := .int .i64 3, val := .int .i64 x.r, born := 2 }]
theorem refFind (x : Cn) (u : Int) : (∃ i, Instr.findNow (.int .i64) (.int .i64 u) (refEs x).toList 0 = some (some (i, .int .i64 (x.of u)))) ∨
    (Instr.findNow (.int .i64) (.int .i64 u) (refEs x).toList 0 = some none ∧ x.of u = 0) := by
  unfold refEs Cn.of
  by_cases h1 : u = 1
  · exact .inl ⟨0, by simp [Instr.findNow, Instr.sameNow, h1]⟩
  by_cases h2 : u = 2
  · exact .inl ⟨1, by simp [Instr.findNow, Instr.sameNow, h2]⟩
  by_cases h3 : u = 3
  · exact .inl ⟨2, by simp [Instr.findNow, Instr.sameNow, h3]⟩
  · refine .inr ⟨?_, by rw [if_neg h1, if_neg h2, if_neg h3]⟩
    simp [Instr.findNow, Instr.sameNow, beq_eq_false_iff_ne.2 h1, beq_eq_false_iff_ne.2 h2, beq_eq_false_iff_ne.2 h3]
theorem refLookup (x : Cn) (u : Int) (w : World) : (Instr.lookup 166 (.map (some w.heap.size)) (.int .i64 u) false).run Tryd.prog (w.alloc (.map (refEs x) 3)) = .ok (.int .i64 (x.of u)) (w.alloc (.map (refEs x) 3)) := by
  rcases refFind x u with ⟨i, h⟩ | ⟨h, e⟩
  · exact run_lookup_last Tryd.underlying166 Tryd.underlying3 w (refEs x) 3 u i _ h
  · rw [e]
    exact run_lookup_last_none Tryd.underlying166 Tryd.underlying3 w (refEs x) 3 u _ zeroInt h
set_option maxHeartbeats 400000 in
theorem refIn_calls (x : Cn) (u : Int) (w : World) :
    Calls Tryd.prog 38 #[x.v, .int .i64 u] w fun e w' => e = .returned (.int .i64 (x.of u)) ∧ Below w.heap.size w w' := by
  rw [Cn.v_eq]
  have hmm := @run_makeMap Tryd.prog
  have i1 := run_insert_last (P := Tryd.prog) (w := w.alloc (.cells #[.int .i64 x.b, .int .i64 x.h, .int .i64 x.r, .int .i64 x.l] 36)) Tryd.underlying166 Tryd.underlying3 #[] 0 1 (.int .i64 x.b) rfl
  have i2 := run_insert_last (P := Tryd.prog) (w := w.alloc (.cells #[.int .i64 x.b, .int .i64 x.h, .int .i64 x.r, .int .i64 x.l] 36)) Tryd.underlying166 Tryd.underlying3
    #[{ key := .int .i64 1, val := .int .i64 x.b, born := 0 }] 1 2 (.int .i64 x.h) rfl
  have i3 := run_insert_last (P := Tryd.prog) (w := w.alloc (.cells #[.int .i64 x.b, .int .i64 x.h, .int .i64 x.r, .int .i64 x.l] 36)) Tryd.underlying166 Tryd.underlying3
    #[{ key := .int .i64 1, val := .int .i64 x.b, born := 0 }, { key := .int .i64 2, val := .int .i64 x.h, born := 1 }] 2 3 (.int .i64 x.r) rfl
  have l := refLookup x u (w.alloc (.cells #[.int .i64 x.b, .int .i64 x.h, .int .i64 x.r, .int .i64 x.l] 36))
  unfold refEs at l
  generalize x.of u = q at l ⊢
  simp only [List.push_toArray, List.nil_append, List.cons_append, World.size_alloc] at i1 i2 i3 l
  go_enter Tryd.func38, Tryd.ntmps38
  go_wp2
  go_ret
  exact ⟨rfl, ((Below.refl _ _).alloc (Nat.le_refl _) _).alloc (by simp) _⟩
end Go.Proofs.YtgokmldngnmmhaaDoor
/- utf.Walk's function, as an iterator. -/
namespace Go.Proofs.YtgokmldngnmmhaaDoor
open Go.RowKit Go.Shelf
set_option maxRecDepth 100000
attribute [local go_sem] Oper.semAt_some
/-- What a round keeps: every variable but one. -/
def KpB (b : Nat) (A A' : World) : Prop := A.heap.size ≤ A'.heap.size ∧ ∀ k cs t, A.heap[k]? = some (.cells cs t (0, 0)) → k ≠ b → A'.heap[k]? = some (.cells cs t (0, 0))
theorem cn_set {w : World} {g : Nat} {x y : Cn} (h : CnBlk w g x) : CnBlk ((((w.setCell ⟨g, 0, none⟩ (.int .i64 y.b)).setCell ⟨g, 1, none⟩ (.int .i64 y.h)).setCell ⟨g, 2, none⟩ (.int .i64 y.r)).setCell ⟨g, 3, none⟩ (.int .i64 y.l)) g y ∧
    (∀ B, B ≤ g → Below B w ((((w.setCell ⟨g, 0, none⟩ (.int .i64 y.b)).setCell ⟨g, 1, none⟩ (.int .i64 y.h)).setCell ⟨g, 2, none⟩ (.int .i64 y.r)).setCell ⟨g, 3, none⟩ (.int .i64 y.l))) ∧
    ∀ g', g' ≠ g → ((((w.setCell ⟨g, 0, none⟩ (.int .i64 y.b)).setCell ⟨g, 1, none⟩ (.int .i64 y.h)).setCell ⟨g, 2, none⟩ (.int .i64 y.r)).setCell ⟨g, 3, none⟩ (.int .i64 y.l)).heap[g']? = w.heap[g']? :=
  h.set4 (F := fun V => CnBlk V g y ∧ (∀ B, B ≤ g → Below B w V) ∧ ∀ g', g' ≠ g → V.heap[g']? = w.heap[g']?) (fun _ h1 h2 _ h4 => ⟨h1, h2, h4⟩)
section
attribute [local go_sem] ext_drop
set_option maxHeartbeats 8000000 in
theorem walk1_in (n l sB iB : Nat) {s : U.Bs} {rs : List Int} {rest : U.Bs} (hsp : U.Sp s rs rest) (hs : s.length ≤ 1000000) (J Jx : Nat → World → Prop) (W : World) (hn : 3 ≤ n)
    (hsB : Blk W sB 9 #[.string ⟨s.toArray⟩]) (hib : iB < W.heap.size) (hne : sB ≠ iB)
    (hJ : ∀ k A B, J k A → Below W.heap.size A B → J k B)
    (hY : ∀ k A (hk : k < rs.length), J k A → YieldAt Fence.wide (n - 1) Tryd.prog l #[(cnt (rs.take k)).v, (oneC rs[k] (U.wid rs[k])).v] A fun e A' => (e = .returned (.bool true) ∧ J (k + 1) A' ∧ KpB iB A A') ∨ (e = .returned (.bool false) ∧ Jx (k + 1) A'))
    (h0 : J 0 W) : CallsIn Fence.wide n Tryd.prog 76 #[.func (.yield l) #[] #[], .pointer (some ⟨sB, 0, none⟩)] W fun e W' => (∃ v, e = .returned v) ∧ (J rs.length W' ∨ ∃ k, k ≤ rs.length ∧ Jx k W') := by
  have HSP := Hd.mk hsp
  have hlen := hsp.length
  have hll := U.len_le_off rs
  have HL := Hd.mk hlen
  have hle : U.off rs rs.length ≤ s.length := by omega
  clear hsp hlen
  have c0 := hsB.cell 0
  simp only [List.getElem?_toArray, List.getElem?_cons_zero] at c0
  refine callsIn_of_wp Tryd.func76 rfl trivial ?_ rfl
  simp only [Tryd.ntmps76, List.size_toArray, List.length_cons, List.length_nil, Nat.reduceAdd, Nat.reduceSub, Array.replicate_succ, Array.replicate_zero, List.push_toArray, List.append_toArray, List.nil_append, List.cons_append]
  gi_wp2_with fail
  gi_loopw [4] (fun i wr => ∃ k : Nat, k ≤ rs.length ∧ i = .int .i64 (U.off rs k) ∧ CnBlk wr W.heap.size (cnt (rs.take k)) ∧ Blk wr sB 9 #[.string ⟨s.toArray⟩] ∧ J k wr) (fun i _ => s.length - (intOf i).toNat)
  case atStart => exact ⟨0, by omega, rfl, Blk.new _ _ _, hsB.alloc _, hJ 0 _ _ h0 ((Below.refl _ _).alloc (Nat.le_refl _) _)⟩
  case round =>
    obtain ⟨k, hk, rfl, hc, hsb, hj⟩ := hrel
    have HC := Hd.mk hc
    have HSB := Hd.mk hsb
    have HJ := Hd.mk hj
    have hcl := hc.lt
    have d0 := hsb.cell 0
    simp only [List.getElem?_toArray, List.getElem?_cons_zero] at d0
    obtain ⟨e0, e1, e2, e3⟩ := hc.cells
    have ef := hc.frozen
    by_cases hlt : k < rs.length
    · have hol : U.off rs k < U.off rs rs.length := U.off_lt hlt
      have HN := Hd.mk (HSP.out.next_at hlt)
      have HO := Hd.mk (U.off_succ hlt)
      have HY := Hd.mk (hY k · hlt)
      have HCS : Hd (cnt (rs.take (k + 1)) = (cnt (rs.take k)).add (oneC rs[k] (U.wid rs[k]))) := ⟨by rw [List.take_succ_eq_append_getElem hlt, cnt_snoc]⟩
      have hw1 := U.wid_pos rs[k]
      have hw2 := U.wid_le rs[k]
      have HCI := Hd.mk (cnt_in (rs.take k)).1
      have hci : (cnt (rs.take k)).In 2305843009213693952 := by
        obtain ⟨⟨b0, b1, h0, h1, r0, r1, l0, l1⟩, _, _⟩ := cnt_in (rs.take k)
        rw [List.length_take] at b1 h1 r1 l1
        exact ⟨b0, by omega, h0, by omega, r0, by omega, l0, by omega⟩
      have HCI2 := Hd.mk hci
      have HOI : Hd ((oneC rs[k] (U.wid rs[k])).In 2305843009213693952) := ⟨by
        obtain ⟨b0, b1, h0, h1, r0, r1, l0, l1⟩ := oneC_in rs[k]
        exact ⟨b0, by omega, h0, by omega, r0, by omega, l0, by omega⟩⟩
      generalize rs[k] = r at *
      have hn0 : ((U.wid r : Int) == 0) = false := by rw [beq_eq_false_iff_ne]; omega
      clear hci hc hsb hj
      gi_wp2_with fail
      refine ⟨trivial, fun h => absurd h (by decide), (callsIn_wide.2 (next_at HN.out _ (by rw [List.length_drop]; omega))).mono ?_⟩
      rintro e w' ⟨rfl, rfl⟩
      gi_wp2_with fail
      refine ⟨trivial, fun h => absurd h (by decide), (callsIn_wide.2 (one_calls r (U.wid r) _)).mono ?_⟩
      rintro e w1 ⟨rfl, hb1⟩
      generalize oneC r (U.wid r) = x1 at *
      generalize cnt (rs.take k) = cc at *
      have hzw : W.heap.size ≤ wr.heap.size := by omega
      have hc1 := HC.out.below hb1 hcl
      have hsb1 := HSB.out.below hb1 HSB.out.lt
      have hxb : Blk (w1.alloc (.cells #[.int .i64 x1.b, .int .i64 x1.h, .int .i64 x1.r, .int .i64 x1.l] 36)) w1.heap.size 36 #[.int .i64 x1.b, .int .i64 x1.h, .int .i64 x1.r, .int .i64 x1.l] := Blk.new _ _ _
      have hca : CnBlk (w1.alloc (.cells #[.int .i64 x1.b, .int .i64 x1.h, .int .i64 x1.r, .int .i64 x1.l] 36)) W.heap.size cc := (Below.heap_alloc w1 _ _ hc1.lt).trans hc1
      have hsba := hsb1.alloc (.cells #[.int .i64 x1.b, .int .i64 x1.h, .int .i64 x1.r, .int .i64 x1.l] 36)
      have hja := hJ k wr _ HJ.out ((hb1.mono hzw).alloc (by have := hb1.size; omega) (.cells #[.int .i64 x1.b, .int .i64 x1.h, .int .i64 x1.r, .int .i64 x1.l] 36))
      have hz1 := hb1.size
      obtain ⟨e0, e1, e2, e3⟩ := hc1.cells
      have hlt1 := hc1.lt
      have hne1 : W.heap.size ≠ w1.heap.size := by omega
      have hne2 : ¬ W.heap.size = w1.heap.size := hne1
      obtain ⟨fn, tmps, assign, body, hy, hR⟩ := HY.out _ hja
      have HR := Hd.mk hR
      have HXB := Hd.mk hxb
      have HCA := Hd.mk hca
      have HSBA := Hd.mk hsba
      clear hR hxb hca hsba hja hb1 hc1 hsb1
      gi_wp2_with fail
      refine ⟨fun _ => by omega, HR.out.mono ?_⟩
      rintro e W3 (⟨rfl, hJ3, hk3⟩ | ⟨rfl, hJx3⟩)
      · have hz3 := hk3.1
        simp only [World.size_alloc] at hz3
        have hc3 : CnBlk W3 W.heap.size cc := hk3.2 _ _ _ HCA.out (by omega)
        have hx3 : CnBlk W3 w1.heap.size x1 := hk3.2 _ _ _ HXB.out (by omega)
        have hs3 : Blk W3 sB 9 #[.string ⟨s.toArray⟩] := hk3.2 _ _ _ HSBA.out hne
        obtain ⟨e0, e1, e2, e3⟩ := hc3.cells
        obtain ⟨f0, f1, f2, f3⟩ := hx3.cells
        have HC3 := Hd.mk hc3
        have HS3 := Hd.mk hs3
        have HJ3 := Hd.mk hJ3
        clear hc3 hx3 hs3 hJ3 hk3
        gi_wp2_with fail
        refine ⟨trivial, fun h => absurd h (by decide), (callsIn_wide.2 (plus_calls cc x1 _ HCI2.out HOI.out)).mono ?_⟩
        rintro e w4 ⟨rfl, hb4⟩
        have hc4 := HC3.out.below hb4 HC3.out.lt
        obtain ⟨e0, e1, e2, e3⟩ := hc4.cells
        have ef4 := hc4.frozen
        have HC4 := Hd.mk hc4
        have HS4 := Hd.mk (HS3.out.below hb4 HS3.out.lt)
        have hzz : W.heap.size ≤ W3.heap.size := by omega
        have HJ4 := Hd.mk (hJ (k + 1) _ _ HJ3.out (hb4.mono hzz))
        have hsn : sB ≠ W.heap.size := by have := hsB.lt; omega
        obtain ⟨n1, n2, n3⟩ := cn_set (y := cc.add x1) HC4.out
        have HN1 := Hd.mk n1
        have HN2 := Hd.mk (hJ (k + 1) _ _ HJ4.out (n2 _ (Nat.le_refl _)))
        have HN3 : Hd (Blk _ sB 9 #[.string ⟨s.toArray⟩]) := ⟨(n3 sB hsn).trans HS4.out⟩
        clear hc4 hb4 n1 n2 n3
        gi_wp2_with fail
        exact ⟨⟨k + 1, by omega, by rw [HO.out]; go_num, by rw [HCS.out]; exact HN1.out, HN3.out, HN2.out⟩, by simp only [intOf]; omega⟩
      · gi_wp2_with fail
        refine bodyPost_ret (results_none rfl _ _ _) rfl ?_
        exact ⟨⟨_, rfl⟩, .inr ⟨k + 1, by omega, hJx3⟩⟩
    · obtain rfl : k = rs.length := by omega
      have HJE := Hd.mk hj
      clear hc hsb hj HC HSB
      by_cases hr : rest = []
      · subst hr
        have hge : ¬ U.off rs rs.length < s.length := by have := HL.out; simp at this; omega
        clear hlt
        gi_wp2_with fail
        go_end0
        exact ⟨⟨_, rfl⟩, .inl HJE.out⟩
      · have hlt' : U.off rs rs.length < s.length := by
          have := HL.out
          have h2 : 0 < rest.length := List.length_pos_iff.2 hr
          omega
        have HN := Hd.mk HSP.out.next_end
        clear hlt hr
        gi_wp2_with fail
        refine ⟨trivial, fun h => absurd h (by decide), (callsIn_wide.2 (next_at HN.out _ (by rw [List.length_drop]; omega))).mono ?_⟩
        rintro e w' ⟨rfl, rfl⟩
        gi_wp2_with fail
        refine bodyPost_ret (results_none rfl _ _ _) rfl ?_
        exact ⟨⟨_, rfl⟩, .inl HJE.out⟩
end
end Go.Proofs.YtgokmldngnmmhaaDoor
/- A range over a function, at the wide fence, by an iterator that keeps a variable of its own, with a body that never leaves: out of the kit's law of one statement (wpIn_rangeFunc). -/
namespace Go.Proofs.YtgokmldngnmmhaaDoor
open Go.RowKit Go.Shelf Go.Sort
section
variable {F : Fence} {n : Nat} {P : Program} {ops : Array Oper} {md : Region.Mode} {C : World → Prop} {l : Nat}
/-- An operation of a round that only reads, out of the walk at the fence itself. -/
theorem oper_round_quiet {o : Oper} {a : Act} {K : Act → Prop} {K' : Act → World → Prop} {Q' : Exit → Act → World → Prop} {w : World} (hnd : ∀ c, o.op ≠ .defer c) (hw : C w) (h : ∀ a w', C w' → K a → K' a w')
    (ha : o.askedIn F P a C) (hh : o.quietIn F n P a C K) : o.wpIn (F.inRound l) n P a w K' Q' := by
  obtain ⟨v, h1, h2⟩ := hh
  have h3 := h1 w hw
  unfold Oper.quietAtIn at h3
  unfold Oper.wpIn
  refine ⟨ha w hw, ?_⟩
  rw [Fence.inRound_round, Oper.semAt_some _ _ _ hnd]
  generalize (execOp a.eval o).run P w = r at *
  cases r with
  | ok x w' =>
    cases x <;> simp only [Oper.quietUponIn] at h3 <;> simp only [Oper.uponIn]
    case value u =>
      obtain ⟨e1, e2⟩ := h3
      rw [e1, e2]
      exact h _ _ hw h2
    case skip =>
      obtain ⟨e1, e2⟩ := h3
      rw [e1, ← e2]
      exact h _ _ hw h2
    case enter f args =>
      obtain ⟨e1, hd, hc⟩ := h3
      rw [e1]
      exact ⟨hd, CallsIn.inRound l (hc.mono fun e w'' ⟨he, hw''⟩ => by subst he; exact h _ _ hw'' h2)⟩
  | halt x w' => simp only [Oper.quietUponIn] at h3
theorem any_round_quiet {Q : Act → Prop} {Q' : Exit → Act → World → Prop} (hnd : ∀ (i : Nat) (o : Oper), ops[i]? = some o → ∀ c, o.op ≠ .defer c) (hQ : ∀ a w, C w → Q a → Q' .normal a w) : ∀ (fuel : Nat) (listed : Array Bool) (a : Act) (w : World), C w →
    wpAnyQIn F n P md ops C Q fuel listed a → wpAnyIn (F.inRound l) n P md ops Q' fuel listed a w
  | 0, _, _, _, hw, h => ⟨h.1, hQ _ _ hw h.2⟩
  | fuel + 1, listed, _, _, hw, h => ⟨fun h0 => hQ _ _ hw (h.1 h0), fun i hi => by
      have hh := h.2 i hi
      have ih := fun a' w' hw' => any_round_quiet hnd hQ fuel (listed.setIfInBounds i true) a' w' hw'
      unfold qOpIn at hh
      unfold wpOpIn
      split
      · rename_i ho; simp only [ho] at hh; exact ih _ _ hw hh
      · rename_i o ho
        simp only [ho] at hh
        obtain ⟨ha, hh⟩ := hh
        split
        · rename_i hw'; simp only [hw', if_true] at hh; exact oper_round_quiet (hnd _ _ ho) hw ih ha hh
        · rename_i hw'; simp only [hw'] at hh; exact ⟨ha _ hw, ih _ _ hw hh⟩⟩
/-- A region of a round that draws its order, whose callees leave what there was: walked once. -/
theorem round_quiet_below {id : Nat} {Q : Exit → Act → World → Prop} {a : Act} {w : World} {ol : List Oper} (hm : P.follows .mixedOrders = true) (hB : Region.lexB .any ol.toArray = true) (hnd : ol.all (fun o : Oper => match o.op with | .defer _ => false | _ => true) = true)
    (h : wpQuietIn F n P ol.toArray (fun w' => ∃ p : Regrown, w' = grow (redrawn w p.d) p.os) (fun a' => ∀ w', (∃ p : Regrown, w' = grow (redrawn w p.d) p.os) → Q .normal a' w') ol a) : (Code.region id ol.toArray true).wpIn (F.inRound l) n P Q a w := by
  simp only [Region.lexB, Bool.and_eq_true] at hB
  refine wpIn_region_any hm (any_round_quiet (Q := fun a' => ∀ w', (∃ p : Regrown, w' = grow (redrawn w p.d) p.os) → Q .normal a' w') ?_ (fun _ w' hw' h => h w' hw') _ _ _ _ ⟨⟨w.drawn + 1, #[]⟩, by rw [grow_empty]; rfl⟩ ?_)
  · intro i o ho c hc
    simp only [List.getElem?_toArray] at ho
    have := List.all_eq_true.1 hnd o (List.mem_of_getElem? ho)
    rw [hc] at this
    cases this
  · have := wpAnyQIn_lex (F := F) (n := n) (C := fun w' => ∃ p : Regrown, w' = grow (redrawn w p.d) p.os) (md := .any) hB.1 ol.toArray.toList 0 (Array.replicate ol.toArray.size false) a (by simp) (by simpa using hB.2) (by simpa using h)
    simpa using this
end
section
variable {P : Program} {n : Nat} {g : Operand} {ps : Array Tmp} {assign body : Code} {Q : Exit → Act → World → Prop} {a : Act} {w : World}
/-- What is asked of the iterator. -/
def IterB (P : Program) (n gf : Nat) (lb : Array Value) (xs : Nat → Array Value) (N iB : Nat) (w : World) : Prop :=
  ∀ (l : Nat) (J Jx : Nat → World → Prop) (W : World), Below w.heap.size w W → (∀ k A B, J k A → Below W.heap.size A B → J k B) →
    (∀ k A, k < N → J k A → YieldAt Fence.wide (n - 1) P l (xs k) A fun e A' => (e = .returned (.bool true) ∧ J (k + 1) A' ∧ KpB iB A A') ∨ (e = .returned (.bool false) ∧ Jx (k + 1) A')) →
    J 0 W → CallsIn Fence.wide n P gf (#[.func (.yield l) #[] #[]] ++ lb) W fun e W' => (∃ v, e = .returned v) ∧ (J N W' ∨ ∃ k, k ≤ N ∧ Jx k W')
/-- What a round of the body gives: all blocks that there were, but one, lie as they lay. -/
def BodyB (I : Nat → World → Prop) (k iB : Nat) (W : World) (e : Exit) (_ : Act) (W' : World) : Prop :=
  e = .normal ∧ I (k + 1) W' ∧ W.heap.size ≤ W'.heap.size ∧ ∀ b, b < W.heap.size → b ≠ iB → W'.heap[b]? = W.heap[b]?
theorem putObj_below {B : Nat} (W : World) (l : Nat) (o : Obj) (h : B ≤ l) : Below B W (W.putObj l o) :=
  ⟨rfl, rfl, rfl, by simp, fun _ hk => World.putObj_heap_other (by omega)⟩
theorem range_b {gf : Nat} {lb : Array Value} (hg : a.eval g = .func (.func gf) #[] lb) (eg : ∀ args w, (callFunc gf args).run P w = .ok (.enter gf args) w)
    {xs : Nat → Array Value} {N iB : Nat} (hib : iB < w.heap.size) (hseq : IterB P (n - 1) gf lb xs N iB w) (hps : ∀ k, (xs k).size = ps.size)
    (I : Nat → World → Prop) (hI : ∀ k A B, I k A → Below w.heap.size A B → I k B) (h0 : I 0 w)
    (hround : ∀ (l k : Nat) (W : World), k < N → I k W → w.heap.size + 1 < W.heap.size →
      assign.wpIn (Fence.wide.inRound l) (n - 1 - 1) P (Exit.then (fun a' W' => Below W.heap.size W W' ∧
        ∀ o, body.wpIn (Fence.wide.inRound l) (n - 1 - 1) P (BodyB I k iB (W'.putObj (w.heap.size + 1) o)) a' (W'.putObj (w.heap.size + 1) o)) (fun _ _ _ => False))
        { tmps := (ps.zip (xs k)).foldl (fun t (p, v) => t.setIfInBounds p v) a.tmps, defers := [] } W)
    (hdone : ∀ W, I N W → W.heap[w.heap.size]? = some (.deferred (some [])) → Q .normal { a with defers := { target := .collected w.heap.size, args := #[] } :: a.defers } W) :
    (Code.rangeFunc g ps assign body).wpIn Fence.wide n P Q a w := by
  refine wpIn_rangeFunc ?_
  intro fn hfn
  obtain ⟨rec, hrec⟩ : ∃ rec : LoopState → Loop, rec = fun st => { state := st, pending := none, fn, tmps := a.tmps, params := ps, assign, body, defers := w.heap.size } := ⟨_, rfl⟩
  have hsz1 : (w.alloc (.deferred (some []))).heap.size = w.heap.size + 1 := World.size_alloc _ _
  have hL1 : ((w.alloc (.deferred (some []))).alloc (.loop (rec .ready))).heap[w.heap.size + 1]? = some (.loop (rec .ready)) := by
    have := World.alloc_heap_new (w.alloc (.deferred (some []))) (.loop (rec .ready))
    rwa [hsz1] at this
  have hK1 : ((w.alloc (.deferred (some []))).alloc (.loop (rec .ready))).heap[w.heap.size]? = some (.deferred (some [])) :=
    (Below.heap_alloc _ _ _ (by rw [hsz1]; omega)).trans (World.alloc_heap_new w _)
  have hb1 : Below w.heap.size w ((w.alloc (.deferred (some []))).alloc (.loop (rec .ready))) := ((Below.refl _ w).alloc (Nat.le_refl _) _).alloc (by rw [hsz1]; omega) _
  have hz2 : ((w.alloc (.deferred (some []))).alloc (.loop (rec .ready))).heap.size = w.heap.size + 2 := by rw [World.size_alloc, hsz1]
  refine ⟨w.heap.size + 1, [{ target := .collected w.heap.size, args := #[] }], (w.alloc (.deferred (some []))).alloc (.loop (rec .ready)), { target := .fn (.func gf) lb, args := #[.func (.yield (w.heap.size + 1)) #[] #[]] },
    (w.alloc (.deferred (some []))).alloc (.loop (rec .ready)), gf, #[.func (.yield (w.heap.size + 1)) #[] #[]] ++ lb, (w.alloc (.deferred (some []))).alloc (.loop (rec .ready)), ?_, ?_, fun _ _ => trivial, ?_, fun h => absurd h (by decide), ?_⟩
  · rw [hrec]; exact run_enterLoop_outer _ _ _ _ _
  · simp only [resolve, hg]
    simp [go_sem]
  · simp [invoke, go_sem, eg]
  · generalize (w.alloc (.deferred (some []))).alloc (.loop (rec .ready)) = W1 at *
    have hI1 : I 0 W1 := hI 0 _ _ h0 hb1
    refine (hseq (w.heap.size + 1) (fun k W => I k W ∧ W.heap[w.heap.size + 1]? = some (.loop (rec .ready)) ∧ W.heap[w.heap.size]? = some (.deferred (some []))) (fun _ _ => False) W1 hb1 ?_ ?_ ⟨hI1, hL1, hK1⟩).mono ?_
    · rintro k A B ⟨hi, hl, hk⟩ hb
      exact ⟨hI k _ _ hi (hb.mono (by omega)), (hb.block _ (by omega)).trans hl, (hb.block _ (by omega)).trans hk⟩
    · rintro k A hk ⟨hi, hl, hd⟩
      have hlt : w.heap.size + 1 < A.heap.size := (Array.getElem?_eq_some_iff.1 hl).1
      have hy := run_yield (P := P) (args := xs k) hl (by rw [hrec]; exact hps k)
      rw [hrec] at hy
      refine ⟨fn, _, assign, body, hy, roundIn_of_wpIn hfn (wpIn_mono (hround _ k A hk hi hlt) ?_)⟩
      rintro e a' WA h
      cases e <;> first | exact False.elim h | skip
      obtain ⟨hwa, hax⟩ := h
      have hlA : WA.heap[w.heap.size + 1]? = some (.loop (rec .ready)) := (hwa.block _ hlt).trans hl
      have hltA : w.heap.size + 1 < WA.heap.size := (Array.getElem?_eq_some_iff.1 hlA).1
      have hzA := hwa.size
      rw [hrec] at hlA
      refine ⟨_, run_beginRound hlA rfl, ?_⟩
      refine wpIn_mono (hax _) ?_
      rintro e a3 W3 ⟨rfl, hi3, hz3, hb3⟩
      simp only [World.putObj_size] at hz3 hb3
      have hl3 : W3.heap[w.heap.size + 1]? = some (.loop { rec .ready with state := .busy }) := by
        rw [hrec]; exact (hb3 _ hltA (by omega)).trans (World.putObj_heap_same hltA)
      have hd3 : W3.heap[w.heap.size]? = some (.deferred (some [])) := (hb3 _ (by omega) (by omega)).trans ((World.putObj_heap_other (by omega)).trans ((hwa.block _ (by omega)).trans hd))
      have hr := run_endRound (P := P) none hl3
      have hlt3 : w.heap.size + 1 < W3.heap.size := (Array.getElem?_eq_some_iff.1 hl3).1
      refine ⟨_, _, hr, .inl ⟨rfl, ⟨hI _ _ _ hi3 (putObj_below W3 (w.heap.size + 1) _ (by omega)), ?_, (World.putObj_heap_other (by omega)).trans hd3⟩, ?_, ?_⟩⟩
      · rw [World.putObj_heap_same hlt3, hrec]; rfl
      · simp only [World.putObj_size]; omega
      · intro b cs t hbk hbi
        have hbl : b < A.heap.size := (Array.getElem?_eq_some_iff.1 hbk).1
        have hne : b ≠ w.heap.size + 1 := fun e => by subst e; rw [hl] at hbk; cases hbk
        rw [World.putObj_heap_other hne, hb3 b (by omega) hbi, World.putObj_heap_other hne, hwa.block b hbl]
        exact hbk
    · rintro e W2 ⟨⟨v, rfl⟩, (⟨hi, hl, hd⟩ | ⟨_, _, h⟩)⟩
      · refine ⟨none, _, by have := run_endLoop (P := P) hl (by rw [hrec]; simp); rw [hrec] at this; exact this, ?_⟩
        exact hdone _ (hI _ _ _ hi (putObj_below W2 (w.heap.size + 1) _ (by omega))) ((World.putObj_heap_other (by omega)).trans hd)
      · exact h.elim
end
end Go.Proofs.YtgokmldngnmmhaaDoor
