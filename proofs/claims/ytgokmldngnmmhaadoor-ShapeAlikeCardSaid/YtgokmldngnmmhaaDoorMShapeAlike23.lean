/- Several texts of the proof, one behind the other: RuB, OpK. -/
import Derived.Test.YtgokmldngnmmhaaDoorMShapeAlike1
import Derived.Test.YtgokmldngnmmhaaDoorMShapeAlike12
import Derived.Test.YtgokmldngnmmhaaDoorMShapeAlike18
import Derived.Test.YtgokmldngnmmhaaDoorMShapeAlike14
import Derived.Test.YtgokmldngnmmhaaDoorMShapeAlike16
/- Operations rune by rune, as operations in bytes: transform and compose of the one are those of the other one. Plain. -/
namespace Go.Proofs.YtgokmldngnmmhaaDoor
/-- An operation over runes, byte by byte. -/
def bexp : List (RU Int) → List Int → List PT
  | .p r :: X, R => (U.enc r).map PT.byte ++ bexp X R
  | .k :: X, r :: R => List.replicate (U.wid r) PT.k1 ++ bexp X R
  | .d :: X, r :: R => List.replicate (U.wid r) PT.d1 ++ bexp X R
  | _, _ => []
theorem wid_succ (r : Int) : ∃ n, U.wid r = n + 1 := ⟨U.wid r - 1, by have := U.wid_pos r; omega⟩
theorem hput_unit (r : Int) (u : Bool) (x : List PT) : hput (List.replicate (U.wid r) (unit u) ++ x) = false := by
  obtain ⟨n, e⟩ := wid_succ r
  rw [e, List.replicate_succ]
  exact isPut_unit u
theorem hput_bk (q : Int) (Y : List (RU Int)) (R : List Int) : hput (bexp (.k :: Y) (q :: R)) = false := hput_unit q false _
theorem hput_bd (q : Int) (Y : List (RU Int)) (R : List Int) : hput (bexp (.d :: Y) (q :: R)) = false := hput_unit q true _
theorem hdrop_k (r : Int) (x : List PT) : ¬ hdrop (List.replicate (U.wid r) PT.k1 ++ x) := by
  obtain ⟨n, e⟩ := wid_succ r
  rw [e, List.replicate_succ]
  show ¬ (0 : Int) < PT.k1.drop
  decide
theorem enc_cons (r : Int) : ∃ c b, U.enc r = c :: b := by
  have := U.enc_length r
  have h2 := U.wid_pos r
  match h : U.enc r with
  | [] => rw [h] at this; simp at this; omega
  | c :: b => exact ⟨c, b, rfl⟩
theorem hdrop_p (r : Int) (x : List PT) : ¬ hdrop ((U.enc r).map PT.byte ++ x) := by
  obtain ⟨c, b, e⟩ := enc_cons r
  rw [e]
  show ¬ (0 : Int) < (PT.byte c).drop
  simp [PT.byte]
theorem tr_bexp {first : Bool} {X Y : List (RU Int)} {R : List Int} (hx : rwas X = R.length) (hy : rwas Y = R.length) : tr first (bexp X R) (bexp Y R) = bexp (rtr first X Y) (rap Y R) := by
  generalize hm : X.length + Y.length = m
  induction m using Nat.strongRecOn generalizing X Y R with
  | _ m ih =>
    have step : ∀ (X' Y' : List (RU Int)) (R' : List Int), X'.length + Y'.length < m → rwas X' = R'.length → rwas Y' = R'.length → tr first (bexp X' R') (bexp Y' R') = bexp (rtr first X' Y') (rap Y' R') := fun X' Y' R' h1 h2 h3 => ih _ h1 h2 h3 rfl
    clear ih
    match X, Y, R with
    | [], [], R => simp [bexp, rtr, tr, rap]
    | .p r :: X, [], R =>
      have := step X [] R (by simp at hm ⊢; omega) hx hy
      rw [show bexp (.p r :: X) R = (U.enc r).map PT.byte ++ bexp X R from rfl, tr_put _ _ _ (.inr (by simp [bexp, hput])), this]
      simp [rtr, bexp]
    | [], .p r :: Y, R =>
      have := step [] Y R (by simp at hm ⊢; omega) hx hy
      rw [show bexp (.p r :: Y) R = (U.enc r).map PT.byte ++ bexp Y R from rfl, tr_keep _ _ _ (.inr (by simp [bexp, hput])), this, U.enc_length]
      simp [rtr, bexp, rap]
    | .k :: X, [], R => simp [rwas] at hx hy; omega
    | .d :: X, [], R => simp [rwas] at hx hy; omega
    | [], .k :: X, R => simp [rwas] at hx hy; omega
    | [], .d :: X, R => simp [rwas] at hx hy; omega
    | .p r :: X, .p s :: Y, R =>
      cases hf : first with
      | true =>
        subst hf
        have := step X (.p s :: Y) R (by simp at hm ⊢; omega) hx hy
        rw [show bexp (.p r :: X) R = (U.enc r).map PT.byte ++ bexp X R from rfl, tr_put _ _ _ (.inl rfl), this]
        simp [rtr, bexp]
      | false =>
        subst hf
        have := step (.p r :: X) Y R (by simp at hm ⊢; omega) hx hy
        rw [show bexp (.p s :: Y) R = (U.enc s).map PT.byte ++ bexp Y R from rfl, tr_keep _ _ _ (.inl rfl), this, U.enc_length]
        simp [rtr, bexp, rap]
    | .p r :: X, .k :: Y, [] => simp [rwas] at hy
    | .p r :: X, .d :: Y, [] => simp [rwas] at hy
    | .p r :: X, .k :: Y, q :: R =>
      have := step X (.k :: Y) (q :: R) (by simp at hm ⊢; omega) hx hy
      rw [show bexp (.p r :: X) (q :: R) = (U.enc r).map PT.byte ++ bexp X (q :: R) from rfl, tr_put _ _ _ (.inr (hput_bk q _ _)), this]
      simp [rtr, bexp]
    | .p r :: X, .d :: Y, q :: R =>
      have := step X (.d :: Y) (q :: R) (by simp at hm ⊢; omega) hx hy
      rw [show bexp (.p r :: X) (q :: R) = (U.enc r).map PT.byte ++ bexp X (q :: R) from rfl, tr_put _ _ _ (.inr (hput_bd q _ _)), this]
      simp [rtr, bexp]
    | .k :: X, .p s :: Y, [] => simp [rwas] at hx
    | .d :: X, .p s :: Y, [] => simp [rwas] at hx
    | .k :: X, .p s :: Y, q :: R =>
      have := step (.k :: X) Y (q :: R) (by simp at hm ⊢; omega) hx hy
      rw [show bexp (.p s :: Y) (q :: R) = (U.enc s).map PT.byte ++ bexp Y (q :: R) from rfl, tr_keep _ _ _ (.inr (hput_bk q _ _)), this, U.enc_length]
      simp [rtr, bexp, rap]
    | .d :: X, .p s :: Y, q :: R =>
      have := step (.d :: X) Y (q :: R) (by simp at hm ⊢; omega) hx hy
      rw [show bexp (.p s :: Y) (q :: R) = (U.enc s).map PT.byte ++ bexp Y (q :: R) from rfl, tr_keep _ _ _ (.inr (hput_bd q _ _)), this, U.enc_length]
      simp [rtr, bexp, rap]
    | .k :: X, .k :: Y, [] => simp [rwas] at hx
    | .k :: X, .d :: Y, [] => simp [rwas] at hx
    | .d :: X, .k :: Y, [] => simp [rwas] at hx
    | .d :: X, .d :: Y, [] => simp [rwas] at hx
    | .k :: X, .k :: Y, q :: R =>
      have := step X Y R (by simp at hm ⊢; omega) (by simpa [rwas] using hx) (by simpa [rwas] using hy)
      have h2 := tr_both (first := first) (U.wid q) false false (bexp X R) (bexp Y R)
      rw [this] at h2
      simpa [rtr, bexp, rap, unit] using h2
    | .k :: X, .d :: Y, q :: R =>
      have := step X Y R (by simp at hm ⊢; omega) (by simpa [rwas] using hx) (by simpa [rwas] using hy)
      have h2 := tr_both (first := first) (U.wid q) false true (bexp X R) (bexp Y R)
      rw [this] at h2
      simpa [rtr, bexp, rap, unit] using h2
    | .d :: X, .k :: Y, q :: R =>
      have := step X Y R (by simp at hm ⊢; omega) (by simpa [rwas] using hx) (by simpa [rwas] using hy)
      have h2 := tr_both (first := first) (U.wid q) true false (bexp X R) (bexp Y R)
      rw [this] at h2
      simpa [rtr, bexp, rap, unit] using h2
    | .d :: X, .d :: Y, q :: R =>
      have := step X Y R (by simp at hm ⊢; omega) (by simpa [rwas] using hx) (by simpa [rwas] using hy)
      have h2 := tr_both (first := first) (U.wid q) true true (bexp X R) (bexp Y R)
      rw [this] at h2
      simpa [rtr, bexp, rap, unit] using h2
theorem cm_bexp {X Y : List (RU Int)} {R : List Int} (hx : rwas X = R.length) (hy : rwas Y = rlen X) : cm (bexp X R) (bexp Y (rap X R)) = bexp (rcm X Y) R := by
  generalize hm : X.length + Y.length = m
  induction m using Nat.strongRecOn generalizing X Y R with
  | _ m ih =>
    have step : ∀ (X' Y' : List (RU Int)) (R' : List Int), X'.length + Y'.length < m → rwas X' = R'.length → rwas Y' = rlen X' → cm (bexp X' R') (bexp Y' (rap X' R')) = bexp (rcm X' Y') R' := fun X' Y' R' h1 h2 h3 => ih _ h1 h2 h3 rfl
    clear ih
    match X, Y, R with
    | .d :: X, Y, [] => simp [rwas] at hx
    | .d :: X, Y, q :: R =>
      have := step X Y R (by simp at hm ⊢; omega) (by simpa [rwas] using hx) hy
      rw [show bexp (.d :: X) (q :: R) = List.replicate (U.wid q) PT.d1 ++ bexp X R from rfl, cm_drop, show rap (.d :: X) (q :: R) = rap X R from rfl, this]
      simp [rcm, bexp]
    | .p r :: X, .p s :: Y, R =>
      have := step (.p r :: X) Y R (by simp at hm ⊢; omega) hx hy
      rw [show ∀ S, bexp (.p s :: Y) S = (U.enc s).map PT.byte ++ bexp Y S from fun _ => rfl, cm_put _ _ _ (show ¬ hdrop (bexp (.p r :: X) R) from hdrop_p r _), this]
      simp [rcm, bexp]
    | .k :: X, .p s :: Y, [] => simp [rwas] at hx
    | .k :: X, .p s :: Y, q :: R =>
      have := step (.k :: X) Y (q :: R) (by simp at hm ⊢; omega) hx hy
      rw [show ∀ S, bexp (.p s :: Y) S = (U.enc s).map PT.byte ++ bexp Y S from fun _ => rfl, cm_put _ _ _ (show ¬ hdrop (bexp (.k :: X) (q :: R)) from hdrop_k q _), this]
      simp [rcm, bexp]
    | [], .p s :: Y, R =>
      have := step [] Y R (by simp at hm ⊢; omega) hx hy
      rw [show ∀ S, bexp (.p s :: Y) S = (U.enc s).map PT.byte ++ bexp Y S from fun _ => rfl, cm_put _ _ _ (by simp [bexp, hdrop]), this]
      simp [rcm, bexp]
    | .p r :: X, .k :: Y, R =>
      have := step X Y R (by simp at hm ⊢; omega) hx (by simpa [rwas, rlen] using hy)
      have h2 := cm_pk (U.enc r) false (bexp X R) (bexp Y (rap X R))
      rw [this, U.enc_length] at h2
      simpa [rcm, bexp, rap, unit] using h2
    | .p r :: X, .d :: Y, R =>
      have := step X Y R (by simp at hm ⊢; omega) hx (by simpa [rwas, rlen] using hy)
      have h2 := cm_pk (U.enc r) true (bexp X R) (bexp Y (rap X R))
      rw [this, U.enc_length] at h2
      simpa [rcm, bexp, rap, unit] using h2
    | .k :: X, .k :: Y, [] => simp [rwas] at hx
    | .k :: X, .d :: Y, [] => simp [rwas] at hx
    | .k :: X, .k :: Y, q :: R =>
      have := step X Y R (by simp at hm ⊢; omega) (by simpa [rwas] using hx) (by simpa [rwas, rlen] using hy)
      have h2 := cm_kk (U.wid q) false (bexp X R) (bexp Y (rap X R))
      rw [this] at h2
      simpa [rcm, bexp, rap, unit] using h2
    | .k :: X, .d :: Y, q :: R =>
      have := step X Y R (by simp at hm ⊢; omega) (by simpa [rwas] using hx) (by simpa [rwas, rlen] using hy)
      have h2 := cm_kk (U.wid q) true (bexp X R) (bexp Y (rap X R))
      rw [this] at h2
      simpa [rcm, bexp, rap, unit] using h2
    | .p r :: X, [], R => simp [rwas, rlen] at hy
    | .k :: X, [], R => simp [rwas, rlen] at hy
    | [], .k :: Y, R => simp [rwas, rlen] at hy
    | [], .d :: Y, R => simp [rwas, rlen] at hy
    | [], [], R => simp [rcm, bexp, cm]
/-- Parts that do, each by itself, what an operation over runes does. -/
inductive OpR : List PT → List (RU Int) → List Int → Prop
  | nil : OpR [] [] []
  | put {rs l X R} : rs ≠ [] → U.AllR rs → OpR l X R → OpR (⟨0, 0, U.encs rs⟩ :: l) (rs.map .p ++ X) R
  | keep {rs l X R} : rs ≠ [] → OpR l X R → OpR (⟨bl rs, 0, []⟩ :: l) (List.replicate rs.length .k ++ X) (rs ++ R)
  | drop {rs l X R} : rs ≠ [] → OpR l X R → OpR (⟨0, bl rs, []⟩ :: l) (List.replicate rs.length .d ++ X) (rs ++ R)
theorem OpR.append {a b : List PT} {X Y : List (RU Int)} {R S : List Int} (h : OpR a X R) (k : OpR b Y S) : OpR (a ++ b) (X ++ Y) (R ++ S) := by
  induction h with
  | nil => exact k
  | put h1 h2 _ ih => rw [List.append_assoc]; exact .put h1 h2 ih
  | keep h1 _ ih => rw [List.append_assoc, List.append_assoc]; exact .keep h1 ih
  | drop h1 _ ih => rw [List.append_assoc, List.append_assoc]; exact .drop h1 ih
theorem rwas_ps (rs : List Int) (X : List (RU Int)) : rwas (rs.map .p ++ X) = rwas X := by
  induction rs with
  | nil => rfl
  | cons r rs ih => exact ih
theorem rlen_ps (rs : List Int) (X : List (RU Int)) : rlen (rs.map .p ++ X) = rs.length + rlen X := by
  induction rs with
  | nil => simp
  | cons r rs ih => simp only [List.map_cons, List.cons_append, rlen, ih, List.length_cons]; omega
theorem rwas_ks (n : Nat) (X : List (RU Int)) : rwas (List.replicate n .k ++ X) = n + rwas X := by
  induction n with
  | zero => simp
  | succ n ih => simp only [List.replicate_succ, List.cons_append, rwas, ih]; omega
theorem rlen_ks (n : Nat) (X : List (RU Int)) : rlen (List.replicate n .k ++ X) = n + rlen X := by
  induction n with
  | zero => simp
  | succ n ih => simp only [List.replicate_succ, List.cons_append, rlen, ih]; omega
theorem OpR.was_ {l : List PT} {X : List (RU Int)} {R : List Int} (h : OpR l X R) : rwas X = R.length := by
  induction h with
  | nil => rfl
  | put _ _ _ ih => rw [rwas_ps, ih]
  | keep _ _ ih => rw [rwas_ks, ih, List.length_append]
  | drop _ _ ih => rw [rwas_append, rwas_ds, ih, List.length_append]
theorem bexp_ps (rs : List Int) (X : List (RU Int)) (R : List Int) : bexp (rs.map .p ++ X) R = (U.encs rs).map PT.byte ++ bexp X R := by
  induction rs with
  | nil => rfl
  | cons r rs ih => simp only [List.map_cons, List.cons_append, bexp, ih, U.encs_cons, List.map_append, List.append_assoc]
theorem bexp_ks (rs : List Int) (X : List (RU Int)) (R : List Int) : bexp (List.replicate rs.length .k ++ X) (rs ++ R) = List.replicate (bl rs) PT.k1 ++ bexp X R := by
  induction rs with
  | nil => rfl
  | cons r rs ih => simp only [List.length_cons, List.replicate_succ, List.cons_append, bexp, ih, bl_cons]; rw [← List.append_assoc, List.replicate_append_replicate]
theorem bexp_ds (rs : List Int) (X : List (RU Int)) (R : List Int) : bexp (List.replicate rs.length .d ++ X) (rs ++ R) = List.replicate (bl rs) PT.d1 ++ bexp X R := by
  induction rs with
  | nil => rfl
  | cons r rs ih => simp only [List.length_cons, List.replicate_succ, List.cons_append, bexp, ih, bl_cons]; rw [← List.append_assoc, List.replicate_append_replicate]
theorem encs_ne {rs : List Int} (h : rs ≠ []) : U.encs rs ≠ [] := fun e => by
  have := bl_pos h
  unfold bl at this
  rw [e] at this
  simp at this
theorem sp_nil : U.Sp [] [] [] := U.sp_encs (rs := []) (fun r hr => by cases hr)
theorem OpR.arg {l : List PT} {X : List (RU Int)} {R : List Int} (h : OpR l X R) : ∀ p ∈ l, p.Good := by
  induction h with
  | nil => intro p hp; simp at hp
  | put h1 h2 _ ih =>
    intro p hp
    rcases List.mem_cons.1 hp with rfl | hp
    · exact ⟨PT.arg_put (encs_ne h1), _, U.sp_encs h2⟩
    · exact ih p hp
  | keep h1 _ ih =>
    intro p hp
    rcases List.mem_cons.1 hp with rfl | hp
    · exact ⟨PT.arg_keep (by have := bl_pos h1; omega), [], sp_nil⟩
    · exact ih p hp
  | drop h1 _ ih =>
    intro p hp
    rcases List.mem_cons.1 hp with rfl | hp
    · exact ⟨PT.arg_drop (by have := bl_pos h1; omega), [], sp_nil⟩
    · exact ih p hp
theorem OpR.expand_ {l : List PT} {X : List (RU Int)} {R : List Int} (h : OpR l X R) : expand l = bexp X R := by
  induction h with
  | nil => rfl
  | put h1 h2 _ ih => rw [expand_cons, exp_put, bexp_ps, ih]
  | keep h1 _ ih =>
    have := bl_pos h1
    rw [expand_cons, bexp_ks, ih]
    simp [PT.exp]
  | drop h1 _ ih =>
    have := bl_pos h1
    rw [expand_cons, bexp_ds, ih]
    congr 1
    unfold PT.exp
    rw [if_neg (by simp), if_pos (by dsimp only; omega)]
    simp
theorem OpR.sizes {l : List PT} {X : List (RU Int)} {R : List Int} (h : OpR l X R) : was l = bl R ∧ comes l = bl (rap X R) := by
  induction h with
  | nil => exact ⟨rfl, rfl⟩
  | @put rs l X R h1 h2 _ ih =>
    have e : rap (rs.map .p ++ X) R = rs ++ rap X R := by
      clear h1 h2 ih
      induction rs with
      | nil => rfl
      | cons r rs ih2 => simp only [List.map_cons, List.cons_append, rap, ih2]
    rw [was, comes, e, bl_append, ih.1, ih.2]
    unfold bl
    constructor <;> dsimp only <;> omega
  | @keep rs l X R h1 _ ih =>
    have e : rap (List.replicate rs.length .k ++ X) (rs ++ R) = rs ++ rap X R := by
      clear h1 ih
      induction rs with
      | nil => rfl
      | cons r rs ih2 => simp only [List.length_cons, List.replicate_succ, List.cons_append, rap, ih2]
    rw [was, comes, e, bl_append, bl_append, ih.1, ih.2]
    constructor <;> dsimp only [List.length_nil] <;> omega
  | @drop rs l X R h1 _ ih =>
    have e : rap (List.replicate rs.length .d ++ X) (rs ++ R) = rap X R := by
      clear h1 ih
      induction rs with
      | nil => rfl
      | cons r rs ih2 => simp only [List.length_cons, List.replicate_succ, List.cons_append, rap, ih2]
    rw [was, comes, e, bl_append, ih.1, ih.2]
    constructor <;> dsimp only [List.length_nil] <;> omega
end Go.Proofs.YtgokmldngnmmhaaDoor
/- ops.checked, ref.both. -/
namespace Go.Proofs.YtgokmldngnmmhaaDoor
open Go.RowKit
set_option maxRecDepth 100000
attribute [local go_sem ↓] Go.wp_at_zero Go.wp_at_succ
theorem errOf_zero : errOf 0 = .nilIface := rfl
theorem errOf_ne {e : Int} (h : e ≠ 0) : errOf e = .iface 23 (.int .i64 e) := by unfold errOf; rw [if_neg h]
/-- What is wrong with both. -/
noncomputable def chk2 (a b : List PT) : Int := if chk a (wrap64 (was a)) = 0 then chk b (wrap64 (was b)) else chk a (wrap64 (was a))
section
attribute [local go_sem] add_mk
set_option maxHeartbeats 4000000 in
theorem checked_calls {la lb : List PT} {va vb : Value} {na nb : Nat} {w : World} (hg : Hdl w) (ha : Sl w 3 va na (opv la)) (hb : Sl w 3 vb nb (opv lb)) (hpa : ∀ p ∈ la, p.put.length ≤ 35184372087808) (hpb : ∀ p ∈ lb, p.put.length ≤ 35184372087808) :
    Calls Tryd.prog 104 #[va, vb] w fun e w' => e = .returned (errOf (chk2 la lb)) ∧ Below w.heap.size w w' := by
  have HG := Hd.mk hg
  have HA := Hd.mk ha
  have HB := Hd.mk hb
  have HPA := Hd.mk hpa
  have HPB := Hd.mk hpb
  obtain ⟨A1, c1, rfl, -⟩ := ha
  obtain ⟨A2, c2, rfl, -⟩ := hb
  clear hpa hpb hg
  go_enter Tryd.func104, Tryd.ntmps104
  go_wp2_with fail
  refine wp_loop_rounds 3 ?_
  rw [rounds_succ]
  go_wp2_with fail
  have hx : Below w.heap.size w (w.alloc (.cells #[.slice A1 na c1, .slice A2 nb c2] 52)) := ex_alloc (Below.refl _ _) _
  refine (olens_calls (HA.out.below hx)).mono ?_
  rintro e w1 ⟨rfl, hb1⟩
  have HB1 := Hd.mk (bstep hx hb1)
  have HK1 := Hd.mk ((Blk.new w 52 #[.slice A1 na c1, .slice A2 nb c2]).below hb1 (by simp))
  clear hb1 hx
  generalize hx1 : wrap64 (was la) = x1 at *
  have HX1 := Hd.mk hx1
  have hx1b := wrap_in (was la)
  rw [hx1] at hx1b
  clear hx1
  go_wp2_with fail
  refine (ocheck_calls (HG.out.below HB1.out) (HA.out.below HB1.out) HPA.out hx1b).mono ?_
  rintro e w2 ⟨⟨ev, rfl, -, rfl⟩, hb2⟩
  have HB2 := Hd.mk (bstep HB1.out hb2)
  have hk2 := HK1.out.below hb2 HK1.out.lt
  have q0 := hk2.cell 0
  have q1 := hk2.cell 1
  simp only [List.getElem?_toArray, List.getElem?_cons_zero, List.getElem?_cons_succ] at q0 q1
  have HK2 := Hd.mk hk2
  have hlk := hk2.lt
  clear hb2 hk2
  by_cases h0 : chk la x1 = 0
  · rw [h0, errOf_zero]
    have H0 := Hd.mk h0
    clear h0
    go_wp2_with fail
    rw [rounds_succ]
    go_wp2_with fail
    refine (olens_calls (HB.out.below HB2.out)).mono ?_
    rintro e w3 ⟨rfl, hb3⟩
    have HB3 := Hd.mk (bstep HB2.out hb3)
    clear hb3
    generalize hx2 : wrap64 (was lb) = x2 at *
    have HX2 := Hd.mk hx2
    have hx2b := wrap_in (was lb)
    rw [hx2] at hx2b
    clear hx2
    go_wp2_with fail
    refine (ocheck_calls (HG.out.below HB3.out) (HB.out.below HB3.out) HPB.out hx2b).mono ?_
    rintro e w4 ⟨⟨ev, rfl, -, rfl⟩, hb4⟩
    have HB4 := Hd.mk (bstep HB3.out hb4)
    clear hb4
    have HE : Hd (chk2 la lb = chk lb x2) := ⟨by unfold chk2; rw [HX1.out, if_pos H0.out, HX2.out]⟩
    by_cases h1 : chk lb x2 = 0
    · rw [h1, errOf_zero]
      rw [h1] at HE
      clear h1
      go_wp2_with fail
      rw [rounds_succ]
      go_wp2_with fail
      go_ret
      exact ⟨by rw [HE.out, errOf_zero] <;> rfl, HB4.out⟩
    · rw [errOf_ne h1]
      have H1 := Hd.mk h1
      generalize chk lb x2 = z at *
      clear h1
      go_wp2_with fail
      go_ret
      exact ⟨by rw [HE.out, errOf_ne H1.out] <;> rfl, HB4.out⟩
  · have HE : Hd (chk2 la lb = chk la x1) := ⟨by unfold chk2; rw [HX1.out, if_neg h0]⟩
    rw [errOf_ne h0]
    have H0 := Hd.mk h0
    generalize chk la x1 = z at *
    clear h0
    go_wp2_with fail
    go_ret
    exact ⟨by rw [HE.out, errOf_ne H0.out] <;> rfl, HB2.out⟩
end
end Go.Proofs.YtgokmldngnmmhaaDoor
