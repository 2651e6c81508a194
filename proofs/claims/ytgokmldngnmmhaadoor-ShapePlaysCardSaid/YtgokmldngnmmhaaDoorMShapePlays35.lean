/- The reference's Splice, and how it and the rope's answer alike. -/
import Derived.Test.YtgokmldngnmmhaaDoorMShapePlays7
import Derived.Test.YtgokmldngnmmhaaDoorMShapePlays18
import Derived.Test.YtgokmldngnmmhaaDoorMShapePlays34
import Derived.Test.YtgokmldngnmmhaaDoorMShapePlays32
namespace Go.Proofs.YtgokmldngnmmhaaDoor
open Go.RowKit
set_option maxRecDepth 100000
theorem edg_redg (s : U.Bs) (a : Nat) : edg s a = redg s a := by
  unfold edg redg U.at_
  rfl
/-- What Splice makes of the runes R, and what it tells. -/
def SplR (R : List Int) (x d : Int) (prs : List Int) (rest : U.Bs) (R' : List Int) (k pl : Int) : Prop :=
  (rest ≠ [] ∧ R' = R ∧ k = 3 ∧ pl = bl prs) ∨
  (rest = [] ∧ R' = R ∧ pl = -1 ∧ k = 2 ∧ (x < 0 ∨ d < 0 ∨ (bl R : Int) < x ∨ (bl R : Int) - x < d)) ∨
  (rest = [] ∧ R' = R ∧ pl = -1 ∧ k = 1 ∧ ∃ a b : Nat, x = a ∧ d = b ∧ a + b ≤ bl R ∧ (redg (U.encs R) a && redg (U.encs R) (a + b)) = false) ∨
  (rest = [] ∧ R' = R ∧ pl = -1 ∧ k = 12 ∧ ∃ a b : Nat, x = a ∧ d = b ∧ a + b ≤ bl R ∧ (redg (U.encs R) a && redg (U.encs R) (a + b)) = true ∧ 8000 < bl R - b + bl prs) ∨
  (rest = [] ∧ pl = -1 ∧ k = 0 ∧ ∃ P D Q, R = P ++ D ++ Q ∧ x = bl P ∧ d = bl D ∧ bl P + bl prs + bl Q ≤ 8000 ∧ R' = P ++ prs ++ Q)
theorem splR_some (R : List Int) (h : U.AllR R) (x d : Int) (prs : List Int) (rest : U.Bs) : ∃ R' k pl, SplR R x d prs rest R' k pl := by
  by_cases hr : rest = []
  · by_cases h1 : x < 0 ∨ d < 0 ∨ (bl R : Int) < x ∨ (bl R : Int) - x < d
    · exact ⟨R, 2, -1, .inr (.inl ⟨hr, rfl, rfl, rfl, h1⟩)⟩
    · obtain ⟨a, rfl⟩ : ∃ a : Nat, x = a := ⟨x.toNat, by omega⟩
      obtain ⟨b, rfl⟩ : ∃ b : Nat, d = b := ⟨d.toNat, by omega⟩
      have hab : a + b ≤ bl R := by omega
      cases hE : (redg (U.encs R) a && redg (U.encs R) (a + b))
      · exact ⟨R, 1, -1, .inr (.inr (.inl ⟨hr, rfl, rfl, rfl, a, b, rfl, rfl, hab, hE⟩))⟩
      · by_cases hf : 8000 < bl R - b + bl prs
        · exact ⟨R, 12, -1, .inr (.inr (.inr (.inl ⟨hr, rfl, rfl, rfl, a, b, rfl, rfl, hab, hE, hf⟩)))⟩
        · obtain ⟨ha, hb⟩ := Bool.and_eq_true_iff.1 hE
          obtain ⟨p, q, hpq, hpa⟩ := (redg_iff h (a := a) (by omega)).1 ha
          obtain ⟨p2, q2, hpq2, hpa2⟩ := (redg_iff h (a := a + b) hab).1 hb
          rcases pre_le (hpq.symm.trans hpq2) with ⟨y, hy1, hy2⟩ | ⟨y, hy1, hy2⟩
          · subst hy1
            have hy : bl y = b := by rw [bl_append] at hpa2; omega
            refine ⟨p ++ prs ++ q2, 0, -1, .inr (.inr (.inr (.inr ⟨hr, rfl, rfl, p, y, q2, hpq2, by rw [hpa], by rw [hy], ?_, rfl⟩)))⟩
            have := congrArg bl hpq2
            simp only [bl_append] at this
            omega
          · subst hy1
            have hy : bl y = 0 ∧ b = 0 := by rw [bl_append] at hpa; omega
            have hbp : bl p2 = a := by omega
            refine ⟨p2 ++ prs ++ q2, 0, -1, .inr (.inr (.inr (.inr ⟨hr, rfl, rfl, p2, [], q2, by simpa using hpq2, by rw [hbp], by simp [hy.2], ?_, rfl⟩)))⟩
            have := congrArg bl hpq2
            simp only [bl_append] at this
            omega
  · exact ⟨R, 3, bl prs, .inl ⟨hr, rfl, rfl, rfl⟩⟩
theorem SplR.all {R R' prs : List Int} {x d k pl : Int} {rest : U.Bs} (h : SplR R x d prs rest R' k pl) (hR : U.AllR R) (hp : U.AllR prs) : U.AllR R' := by
  rcases h with ⟨-, rfl, -⟩ | ⟨-, rfl, -⟩ | ⟨-, rfl, -⟩ | ⟨-, rfl, -⟩ | ⟨-, -, -, P, D, Q, rfl, -, -, -, rfl⟩
  · exact hR
  · exact hR
  · exact hR
  · exact hR
  · intro r hr
    simp only [List.mem_append] at hr
    rcases hr with (hr | hr) | hr
    · exact hR r (by simp [hr])
    · exact hp r hr
    · exact hR r (by simp [hr])
theorem SplR.size {R R' prs : List Int} {x d k pl : Int} {rest : U.Bs} (h : SplR R x d prs rest R' k pl) (hR : bl R ≤ 8000) : bl R' ≤ 8000 := by
  rcases h with ⟨-, rfl, -⟩ | ⟨-, rfl, -⟩ | ⟨-, rfl, -⟩ | ⟨-, rfl, -⟩ | ⟨-, -, -, P, D, Q, rfl, -, -, hs, rfl⟩
  · exact hR
  · exact hR
  · exact hR
  · exact hR
  · simp only [bl_append]; omega
theorem spl_end {w5 : World} {B : Nat} {x y : Value} (h : Blk w5 B 25 #[x, y]) (k pl : Int) :
    ((w5.setCell ⟨B, 0, none⟩ (.int .i64 k)).setCell ⟨B, 1, none⟩ (.int .i64 pl)).cell? ⟨B, 0, none⟩ = some (.int .i64 k) ∧ ((w5.setCell ⟨B, 0, none⟩ (.int .i64 k)).setCell ⟨B, 1, none⟩ (.int .i64 pl)).cell? ⟨B, 1, none⟩ = some (.int .i64 pl) := by
  have h2 := (h.set_ 0 (.int .i64 k)).set_ 1 (.int .i64 pl)
  have f0 := h2.cell 0
  have f1 := h2.cell 1
  simp only [List.setIfInBounds_toArray, List.set_cons_zero, List.set_cons_succ, List.getElem?_toArray, List.getElem?_cons_zero, List.getElem?_cons_succ] at f0 f1
  exact ⟨f0, f1⟩
theorem spl_end2 {w1 : World} {B : Nat} {x y : Value} {o1 o2 : Obj} (h : Blk w1 B 25 #[x, y]) (k pl : Int) :
    ((((w1.setCell ⟨B, 0, none⟩ (.int .i64 k)).setCell ⟨B, 1, none⟩ (.int .i64 pl)).alloc o1).alloc o2).cell? ⟨B, 0, none⟩ = some (.int .i64 k) ∧ ((((w1.setCell ⟨B, 0, none⟩ (.int .i64 k)).setCell ⟨B, 1, none⟩ (.int .i64 pl)).alloc o1).alloc o2).cell? ⟨B, 1, none⟩ = some (.int .i64 pl) := by
  have h2 := (((h.set_ 0 (.int .i64 k)).set_ 1 (.int .i64 pl)).alloc o1).alloc o2
  have f0 := h2.cell 0
  have f1 := h2.cell 1
  simp only [List.setIfInBounds_toArray, List.set_cons_zero, List.set_cons_succ, List.getElem?_toArray, List.getElem?_cons_zero, List.getElem?_cons_succ] at f0 f1
  exact ⟨f0, f1⟩
theorem spl_below {w w5 : World} {x y : Value} (h : Below w.heap.size w w5) : Below w.heap.size w ((w5.setCell ⟨w.heap.size, 0, none⟩ x).setCell ⟨w.heap.size, 1, none⟩ y) :=
  (h.setCell (p := ⟨w.heap.size, 0, none⟩) (Nat.le_refl _) _).setCell (p := ⟨w.heap.size, 1, none⟩) (Nat.le_refl _) _
set_option maxHeartbeats 8000000 in
theorem rsplice_calls {R R' prs : List Int} {x d k pl : Int} {rest put : U.Bs} {w : World} (h : SplR R x d prs rest R' k pl) (hA : U.AllR R) (hs : U.Sp put prs rest) (hR : bl R ≤ 8000) (hl : put.length ≤ 1000000) :
    Calls Tryd.prog 41 #[.string ⟨(U.encs R).toArray⟩, .int .i64 x, .int .i64 d, .string ⟨put.toArray⟩] w fun e w' => e = .returned (.tuple #[.string ⟨(U.encs R').toArray⟩, fltV k pl]) ∧ Below w.heap.size w w' := by
  have HC := fun w1 => Hd.mk (rcount_calls hs w1 (by omega))
  have HP := Hd.mk hs
  have hlen : (U.encs R).length = bl R := rfl
  have HZ0 : Hd (Blk (w.alloc (.cells #[.int .i64 0, .int .i64 0] 25)) w.heap.size 25 #[.int .i64 0, .int .i64 0]) := ⟨Blk.new _ _ _⟩
  obtain ⟨n, hn⟩ : ∃ n, n = bl R := ⟨_, rfl⟩
  rw [← hn] at hlen hR
  unfold fltV
  rcases h with ⟨hne, rfl, rfl, rfl⟩ | ⟨rfl, rfl, rfl, rfl, hc⟩ | ⟨rfl, rfl, rfl, rfl, a, b, rfl, rfl, hab, hE⟩ | ⟨rfl, rfl, rfl, rfl, a, b, rfl, rfl, hab, hE, hf⟩ | ⟨rfl, rfl, rfl, P, D, Q, hPQ, rfl, rfl, hs2, rfl⟩
  · have HNE := Hd.mk hne
    have HRW : Hd (((U.off prs prs.length : Nat) : Int) = (bl prs : Int)) := ⟨by rw [U.off_full]; rfl⟩
    clear hs hne hn
    go_enter Tryd.func41, Tryd.ntmps41
    go_wp2_with (first
      | (go_at_call 18; refine (HC _).out.mono ?_; rintro e w1 ⟨hb1, -, he⟩; obtain rfl := he HNE.out; have hz := HZ0.out.below hb1 HZ0.out.lt; have HZ1 := Hd.mk hz; have r0 := hz.cell 0; have r1 := hz.cell 1; have rf := hz.frozen; have rl := hz.lt; simp only [List.getElem?_toArray, List.getElem?_cons_zero, List.getElem?_cons_succ] at r0 r1; clear hz; have HB1 := Hd.mk (bstep (ex_alloc (Below.refl _ _) _) hb1); clear hb1 he; unfold fltV))
    rw [HRW.out] at *
    go_region
    all_goals
      go_wp2_with fail
      obtain ⟨f0, f1⟩ := spl_end2 (o1 := .cells #[.int .i64 Cn.zero.b, .int .i64 Cn.zero.h, .int .i64 Cn.zero.r, .int .i64 Cn.zero.l] 36) (o2 := .cells #[.int .i64 3, .int .i64 (bl prs)] 25) HZ1.out (3) (bl prs)
      refine bodyPost_ret (v := .tuple #[.string ⟨(U.encs R').toArray⟩, .agg #[.int .i64 (3), .int .i64 (bl prs)]]) (by simp [results, Tryd.results41, go_sem, f0, f1]) rfl ?_
      exact ⟨rfl, ex_drew (ex_alloc (ex_alloc (spl_below HB1.out) _) _)⟩
  · have HRR := Hd.mk hn
    by_cases h1 : 0 ≤ x ∧ x ≤ (n : Int)
    · have h2 : ¬ (0 ≤ d ∧ d ≤ (n : Int) - x) := by omega
      clear hc hs hn
      have g1 := h1
      obtain ⟨h3, h4⟩ := h1
      go_enter Tryd.func41, Tryd.ntmps41
      go_wp2_with (first
        | (go_at_call 18; refine (HC _).out.mono ?_; rintro e w1 ⟨hb1, he, -⟩; obtain rfl := he rfl; have HZ1 := Hd.mk (HZ0.out.below hb1 HZ0.out.lt); have HB1 := Hd.mk (bstep (ex_alloc (Below.refl _ _) _) hb1); clear hb1 he; unfold fltV)
        | (go_at_call_of 87 (Value.int .i64 x); refine (inT g1 _).mono ?_; rintro e w3 ⟨rfl, rfl⟩)
        | (go_at_call 87; refine (inF h2 _).mono ?_; rintro e w3 ⟨rfl, rfl⟩)
        | (go_at_call 70; refine (bareR_calls _ _).mono ?_; rintro e w5 ⟨rfl, hb5⟩; have hz := HZ1.out.below (bstep (ex_alloc (ex_alloc (Below.refl _ _) _) _) hb5) HZ1.out.lt; have HZ5 := Hd.mk hz; have r0 := hz.cell 0; have r1 := hz.cell 1; have rf := hz.frozen; have rl := hz.lt; simp only [List.getElem?_toArray, List.getElem?_cons_zero, List.getElem?_cons_succ] at r0 r1; have HB5 := Hd.mk (bstep (ex_alloc (ex_alloc HB1.out _) _) hb5); clear hb5 hz))
      obtain ⟨f0, f1⟩ := spl_end HZ5.out (2) (-1)
      refine bodyPost_ret (v := .tuple #[.string ⟨(U.encs R').toArray⟩, .agg #[.int .i64 (2), .int .i64 (-1)]]) (by simp [results, Tryd.results41, go_sem, f0, f1]) rfl ?_
      exact ⟨rfl, spl_below HB5.out⟩
    · clear hc hs hn
      go_enter Tryd.func41, Tryd.ntmps41
      go_wp2_with (first
        | (go_at_call 18; refine (HC _).out.mono ?_; rintro e w1 ⟨hb1, he, -⟩; obtain rfl := he rfl; have HZ1 := Hd.mk (HZ0.out.below hb1 HZ0.out.lt); have HB1 := Hd.mk (bstep (ex_alloc (Below.refl _ _) _) hb1); clear hb1 he; unfold fltV)
        | (go_at_call 87; refine (inF h1 _).mono ?_; rintro e w3 ⟨rfl, rfl⟩)
        | (go_at_call 70; refine (bareR_calls _ _).mono ?_; rintro e w5 ⟨rfl, hb5⟩; have hz := HZ1.out.below (bstep (ex_alloc (ex_alloc (Below.refl _ _) _) _) hb5) HZ1.out.lt; have HZ5 := Hd.mk hz; have r0 := hz.cell 0; have r1 := hz.cell 1; have rf := hz.frozen; have rl := hz.lt; simp only [List.getElem?_toArray, List.getElem?_cons_zero, List.getElem?_cons_succ] at r0 r1; have HB5 := Hd.mk (bstep (ex_alloc (ex_alloc HB1.out _) _) hb5); clear hb5 hz))
      obtain ⟨f0, f1⟩ := spl_end HZ5.out (2) (-1)
      refine bodyPost_ret (v := .tuple #[.string ⟨(U.encs R').toArray⟩, .agg #[.int .i64 (2), .int .i64 (-1)]]) (by simp [results, Tryd.results41, go_sem, f0, f1]) rfl ?_
      exact ⟨rfl, spl_below HB5.out⟩
  · rw [← hn] at hab
    have g1 : 0 ≤ (a : Int) ∧ (a : Int) ≤ (n : Int) := by omega
    have g2 : 0 ≤ (b : Int) ∧ (b : Int) ≤ (n : Int) - (a : Int) := by omega
    have HAD : Hd ((a : Int) + (b : Int) = ((a + b : Nat) : Int)) := ⟨by omega⟩
    cases h0 : redg (U.encs R') a
    · have HE1 := Hd.mk h0
      clear h0 hE hs hn
      go_enter Tryd.func41, Tryd.ntmps41
      go_wp2_with (first
        | (go_at_call 18; refine (HC _).out.mono ?_; rintro e w1 ⟨hb1, he, -⟩; obtain rfl := he rfl; have HZ1 := Hd.mk (HZ0.out.below hb1 HZ0.out.lt); have HB1 := Hd.mk (bstep (ex_alloc (Below.refl _ _) _) hb1); clear hb1 he; unfold fltV)
        | (go_at_call_of 87 (Value.int .i64 (a : Int)); refine (inT g1 _).mono ?_; rintro e w3 ⟨rfl, rfl⟩)
        | (go_at_call 87; refine (inT g2 _).mono ?_; rintro e w3 ⟨rfl, rfl⟩)
        | (go_at_call_of 78 (Value.int .i64 (a : Int)); refine (redge_calls _ a _ (by rw [hlen]; omega)).mono ?_; rintro e w3 ⟨he, rfl⟩; rw [edg_redg, HE1.out] at he; obtain rfl := he)
        | (go_at_call 70; refine (bareR_calls _ _).mono ?_; rintro e w5 ⟨rfl, hb5⟩; have hz := HZ1.out.below (bstep (ex_alloc (ex_alloc (Below.refl _ _) _) _) hb5) HZ1.out.lt; have HZ5 := Hd.mk hz; have r0 := hz.cell 0; have r1 := hz.cell 1; have rf := hz.frozen; have rl := hz.lt; simp only [List.getElem?_toArray, List.getElem?_cons_zero, List.getElem?_cons_succ] at r0 r1; have HB5 := Hd.mk (bstep (ex_alloc (ex_alloc HB1.out _) _) hb5); clear hb5 hz))
      obtain ⟨f0, f1⟩ := spl_end HZ5.out (1) (-1)
      refine bodyPost_ret (v := .tuple #[.string ⟨(U.encs R').toArray⟩, .agg #[.int .i64 (1), .int .i64 (-1)]]) (by simp [results, Tryd.results41, go_sem, f0, f1]) rfl ?_
      exact ⟨rfl, spl_below HB5.out⟩
    · have h9 : redg (U.encs R') (a + b) = false := by rw [h0, Bool.true_and] at hE; exact hE
      have HE1 := Hd.mk h0
      have HE2 := Hd.mk h9
      clear h0 h9 hE hs hn
      go_enter Tryd.func41, Tryd.ntmps41
      go_wp2_with (first
        | (go_at_call 18; refine (HC _).out.mono ?_; rintro e w1 ⟨hb1, he, -⟩; obtain rfl := he rfl; have HZ1 := Hd.mk (HZ0.out.below hb1 HZ0.out.lt); have HB1 := Hd.mk (bstep (ex_alloc (Below.refl _ _) _) hb1); clear hb1 he; unfold fltV)
        | (go_at_call_of 87 (Value.int .i64 (a : Int)); refine (inT g1 _).mono ?_; rintro e w3 ⟨rfl, rfl⟩)
        | (go_at_call 87; refine (inT g2 _).mono ?_; rintro e w3 ⟨rfl, rfl⟩)
        | (go_at_call_of 78 (Value.int .i64 (a : Int)); refine (redge_calls _ a _ (by rw [hlen]; omega)).mono ?_; rintro e w3 ⟨he, rfl⟩; rw [edg_redg, HE1.out] at he; obtain rfl := he)
        | (go_at_call 78; rw [HAD.out]; refine (redge_calls _ (a + b) _ (by rw [hlen]; omega)).mono ?_; rintro e w3 ⟨he, rfl⟩; rw [edg_redg, HE2.out] at he; obtain rfl := he)
        | (go_at_call 70; refine (bareR_calls _ _).mono ?_; rintro e w5 ⟨rfl, hb5⟩; have hz := HZ1.out.below (bstep (ex_alloc (ex_alloc (Below.refl _ _) _) _) hb5) HZ1.out.lt; have HZ5 := Hd.mk hz; have r0 := hz.cell 0; have r1 := hz.cell 1; have rf := hz.frozen; have rl := hz.lt; simp only [List.getElem?_toArray, List.getElem?_cons_zero, List.getElem?_cons_succ] at r0 r1; have HB5 := Hd.mk (bstep (ex_alloc (ex_alloc HB1.out _) _) hb5); clear hb5 hz))
      obtain ⟨f0, f1⟩ := spl_end HZ5.out (1) (-1)
      refine bodyPost_ret (v := .tuple #[.string ⟨(U.encs R').toArray⟩, .agg #[.int .i64 (1), .int .i64 (-1)]]) (by simp [results, Tryd.results41, go_sem, f0, f1]) rfl ?_
      exact ⟨rfl, spl_below HB5.out⟩
  · rw [← hn] at hab hf
    have g1 : 0 ≤ (a : Int) ∧ (a : Int) ≤ (n : Int) := by omega
    have g2 : 0 ≤ (b : Int) ∧ (b : Int) ≤ (n : Int) - (a : Int) := by omega
    have HAD : Hd ((a : Int) + (b : Int) = ((a + b : Nat) : Int)) := ⟨by omega⟩
    obtain ⟨h0, h9⟩ := Bool.and_eq_true_iff.1 hE
    have HE1 := Hd.mk h0
    have HE2 := Hd.mk h9
    have hlp : put.length = bl prs := by have := hs.eq; rw [List.append_nil] at this; rw [this]; rfl
    have hf2 : (8000 : Int) < (n : Int) - (b : Int) + (put.length : Int) := by omega
    clear h0 h9 hE hs hn hf hlp
    go_enter Tryd.func41, Tryd.ntmps41
    go_wp2_with (first
      | (go_at_call 18; refine (HC _).out.mono ?_; rintro e w1 ⟨hb1, he, -⟩; obtain rfl := he rfl; have HZ1 := Hd.mk (HZ0.out.below hb1 HZ0.out.lt); have HB1 := Hd.mk (bstep (ex_alloc (Below.refl _ _) _) hb1); clear hb1 he; unfold fltV)
      | (go_at_call_of 87 (Value.int .i64 (a : Int)); refine (inT g1 _).mono ?_; rintro e w3 ⟨rfl, rfl⟩)
      | (go_at_call 87; refine (inT g2 _).mono ?_; rintro e w3 ⟨rfl, rfl⟩)
      | (go_at_call_of 78 (Value.int .i64 (a : Int)); refine (redge_calls _ a _ (by rw [hlen]; omega)).mono ?_; rintro e w3 ⟨he, rfl⟩; rw [edg_redg, HE1.out] at he; obtain rfl := he)
      | (go_at_call 78; rw [HAD.out]; refine (redge_calls _ (a + b) _ (by rw [hlen]; omega)).mono ?_; rintro e w3 ⟨he, rfl⟩; rw [edg_redg, HE2.out] at he; obtain rfl := he)
      | (go_at_call 70; refine (bareR_calls _ _).mono ?_; rintro e w5 ⟨rfl, hb5⟩; have hz := HZ1.out.below (bstep (ex_alloc (ex_alloc (Below.refl _ _) _) _) hb5) HZ1.out.lt; have HZ5 := Hd.mk hz; have r0 := hz.cell 0; have r1 := hz.cell 1; have rf := hz.frozen; have rl := hz.lt; simp only [List.getElem?_toArray, List.getElem?_cons_zero, List.getElem?_cons_succ] at r0 r1; have HB5 := Hd.mk (bstep (ex_alloc (ex_alloc HB1.out _) _) hb5); clear hb5 hz))
    obtain ⟨f0, f1⟩ := spl_end HZ5.out (12) (-1)
    refine bodyPost_ret (v := .tuple #[.string ⟨(U.encs R').toArray⟩, .agg #[.int .i64 (12), .int .i64 (-1)]]) (by simp [results, Tryd.results41, go_sem, f0, f1]) rfl ?_
    exact ⟨rfl, spl_below HB5.out⟩
  · obtain ⟨S, hS⟩ : ∃ S, S = P ++ prs ++ Q := ⟨_, rfl⟩
    have HSE := Hd.mk hS
    have HPQ := Hd.mk hPQ
    rw [← hS]
    obtain ⟨a, ha⟩ : ∃ a, a = bl P := ⟨_, rfl⟩
    obtain ⟨b, hb⟩ : ∃ b, b = bl D := ⟨_, rfl⟩
    have hnn : n = a + b + bl Q := by rw [hn, ha, hb, hPQ]; simp only [bl_append]
    have hab : a + b ≤ n := by omega
    have g1 : 0 ≤ (a : Int) ∧ (a : Int) ≤ (n : Int) := by omega
    have g2 : 0 ≤ (b : Int) ∧ (b : Int) ≤ (n : Int) - (a : Int) := by omega
    have HAD : Hd ((a : Int) + (b : Int) = ((a + b : Nat) : Int)) := ⟨by omega⟩
    have hE1 : redg (U.encs R) a = true := (redg_iff hA (by omega)).2 ⟨P, D ++ Q, by rw [hPQ, List.append_assoc], ha.symm⟩
    have hE2 : redg (U.encs R) (a + b) = true := (redg_iff hA (by omega)).2 ⟨P ++ D, Q, hPQ, by rw [bl_append, ha, hb]⟩
    have HE1 := Hd.mk hE1
    have HE2 := Hd.mk hE2
    have hlp : put.length = bl prs := by have := hs.eq; rw [List.append_nil] at this; rw [this]; rfl
    have HPU : Hd (put = U.encs prs) := ⟨by have := hs.eq; rw [List.append_nil] at this; exact this⟩
    have hf2 : ¬ ((8000 : Int) < (n : Int) - (b : Int) + (put.length : Int)) := by omega
    have hpl : (put.length : Int) ≤ 8000 := by omega
    have e1 : (ByteArray.mk (U.encs R).toArray).extract 0 a = ⟨(U.encs P).toArray⟩ := by
      rw [ext_take0 (by rw [hlen]; omega), hPQ, U.encs_append, U.encs_append, List.append_assoc, ha]
      unfold bl; rw [List.take_left]
    have e2 : (ByteArray.mk (U.encs R).toArray).extract (a + b) n = ⟨(U.encs Q).toArray⟩ := by
      rw [← hlen, ext_drop, hPQ, U.encs_append, U.encs_append, ha, hb]
      unfold bl; rw [← List.length_append, List.drop_left]
    have HE3 := Hd.mk e1
    have HE4 := Hd.mk e2
    rw [← ha, ← hb]
    clear hE1 hE2 hs hn hnn ha hb hlp hs2 e1 e2 HP hS hPQ
    go_enter Tryd.func41, Tryd.ntmps41
    go_wp2_with (first
      | (go_at_call 18; refine (HC _).out.mono ?_; rintro e w1 ⟨hb1, he, -⟩; obtain rfl := he rfl; have HZ1 := Hd.mk (HZ0.out.below hb1 HZ0.out.lt); have HB1 := Hd.mk (bstep (ex_alloc (Below.refl _ _) _) hb1); clear hb1 he; unfold fltV)
      | (go_at_call_of 87 (Value.int .i64 (a : Int)); refine (inT g1 _).mono ?_; rintro e w3 ⟨rfl, rfl⟩)
      | (go_at_call 87; refine (inT g2 _).mono ?_; rintro e w3 ⟨rfl, rfl⟩)
      | (go_at_call_of 78 (Value.int .i64 (a : Int)); refine (redge_calls _ a _ (by rw [hlen]; omega)).mono ?_; rintro e w3 ⟨he, rfl⟩; rw [edg_redg, HE1.out] at he; obtain rfl := he)
      | (go_at_call 78; rw [HAD.out]; refine (redge_calls _ (a + b) _ (by rw [hlen]; omega)).mono ?_; rintro e w3 ⟨he, rfl⟩; rw [edg_redg, HE2.out] at he; obtain rfl := he))
    have hw1 : IntKind.i64.wrap ((a : Int) + (b : Int)) = (a : Int) + (b : Int) := by rw [IntKind.wrap_i64] <;> omega
    go_region_with (go_at_call 70; refine (bareR_calls _ _).mono ?_; rintro e w5 ⟨rfl, hb5⟩; have hz := HZ1.out.below (bstep (ex_drew (ex_alloc (ex_alloc (Below.refl _ _) _) _)) hb5) HZ1.out.lt; have HZ5 := Hd.mk hz; have r0 := hz.cell 0; have r1 := hz.cell 1; have rf := hz.frozen; have rl := hz.lt; simp only [List.getElem?_toArray, List.getElem?_cons_zero, List.getElem?_cons_succ] at r0 r1; have HB5 := Hd.mk (bstep (ex_drew (ex_alloc (ex_alloc HB1.out _) _)) hb5); clear hb5 hz)
    all_goals
      go_wp2_with fail
      obtain ⟨f0, f1⟩ := spl_end HZ5.out (0) (-1)
      refine bodyPost_ret (v := .tuple #[.string ⟨(U.encs S).toArray⟩, .agg #[.int .i64 (0), .int .i64 (-1)]]) ?_ rfl ?_
      · simp [results, Tryd.results41, go_sem, f0, f1]
        rw [HE3.out, HE4.out, HPU.out, HSE.out, str_append, str_append, U.encs_append, U.encs_append]
      · exact ⟨rfl, spl_below HB5.out⟩
end Go.Proofs.YtgokmldngnmmhaaDoor
