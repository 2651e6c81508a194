/- Transform, Compose, Apply, Invert of operations over runes. -/
import Derived.Test.YtgokmldngnmmhaaDoorMShapeAlike25
import Derived.Test.YtgokmldngnmmhaaDoorMShapeAlike35
import Derived.Test.YtgokmldngnmmhaaDoorMShapeAlike43
namespace Go.Proofs.YtgokmldngnmmhaaDoor
open Go.RowKit
set_option maxRecDepth 100000
theorem rws_ps (rs : List Int) (X : List (RU Int)) : rws U.wid (rs.map .p ++ X) = bl rs + rws U.wid X := by
  induction rs with
  | nil => simp
  | cons r rs ih => simp only [List.map_cons, List.cons_append, rws, ih, bl_cons]; omega
theorem rws_ks (n : Nat) (X : List (RU Int)) : rws U.wid (List.replicate n .k ++ X) = rws U.wid X := by
  induction n with
  | zero => rfl
  | succ n ih => simp only [List.replicate_succ, List.cons_append, rws, ih]
theorem rws_ds (n : Nat) (X : List (RU Int)) : rws U.wid (List.replicate n .d ++ X) = rws U.wid X := by
  induction n with
  | zero => rfl
  | succ n ih => simp only [List.replicate_succ, List.cons_append, rws, ih]
theorem OpR.plen_ {l : List PT} {X : List (RU Int)} {R : List Int} (h : OpR l X R) : plen l = rws U.wid X := by
  induction h with
  | nil => rfl
  | put _ _ _ ih => rw [plen, rws_ps, ih]; rfl
  | keep _ _ ih => rw [plen, rws_ks, ih]; simp
  | drop _ _ ih => rw [plen, rws_ds, ih]; simp
theorem wsum_bl (R : List Int) : wsum U.wid R = bl R := by
  induction R with
  | nil => rfl
  | cons r R ih => rw [wsum, ih, bl_cons]
theorem parts_le {l : List PT} (h : ∀ p ∈ l, p.arg) : (l.length : Int) ≤ was l + plen l := by
  induction l with
  | nil => simp [was, plen]
  | cons p l ih =>
    have i := ih fun q hq => h q (by simp [hq])
    rw [was, plen, List.length_cons]
    rcases (h p (by simp)).cases with ⟨b, hb, rfl⟩ | ⟨n, hn, rfl⟩ | ⟨n, hn, rfl⟩
    · have := List.length_pos_iff.2 hb
      dsimp only; omega
    · dsimp only [List.length_nil]; omega
    · dsimp only [List.length_nil]; omega
theorem plen_comes {l : List PT} (h : ∀ p ∈ l, p.arg) : (plen l : Int) ≤ comes l := by
  induction l with
  | nil => simp [comes, plen]
  | cons p l ih =>
    have i := ih fun q hq => h q (by simp [hq])
    have := (h p (by simp)).2.1
    rw [comes, plen]
    omega
theorem OpR.args {l : List PT} {X : List (RU Int)} {R : List Int} (h : OpR l X R) : ∀ p ∈ l, p.arg := fun p hp => (h.arg p hp).1
theorem plen_mem' {l : List PT} {p : PT} (h : p ∈ l) : p.put.length ≤ plen l := by
  induction l with
  | nil => cases h
  | cons q l ih =>
    rw [plen]
    rcases List.mem_cons.1 h with rfl | h
    · omega
    · have := ih h; omega
/-- An operation over runes that is not too great. -/
structure OpB (l : List PT) (X : List (RU Int)) (R : List Int) : Prop where
  op : OpR l X R
  r : bl R ≤ 100000
  p : plen l ≤ 100000
theorem OpB.len {l : List PT} {X : List (RU Int)} {R : List Int} (h : OpB l X R) : l.length ≤ 200000 := by
  have h1 := parts_le h.op.args
  have h2 := h.op.sizes.1
  have := h.r
  have := h.p
  omega
theorem OpB.mo {l : List PT} {X : List (RU Int)} {R : List Int} (h : OpB l X R) : Mo l l.length :=
  ⟨fun p hp => by have := plen_mem' hp; have := h.p; omega, by have := h.len; omega, fun _ => by have h2 := h.op.sizes.1; have := h.r; have := h.p; omega⟩
theorem OpB.chk_ {l : List PT} {X : List (RU Int)} {R : List Int} (h : OpB l X R) : chk l (wrap64 (was l)) = 0 := by
  have h2 := h.op.sizes.1
  have := h.r
  rw [wrap_id (by omega) (by omega), h2]
  exact h.op.chk_
theorem OpB.chk2_ {la lb : List PT} {X Y : List (RU Int)} {R S : List Int} (ha : OpB la X R) (hb : OpB lb Y S) : chk2 la lb = 0 := by
  unfold chk2
  rw [if_pos ha.chk_, hb.chk_]
/-- The least form's parts are the same, whether it is laid anew or not. -/
theorem nrun_rnm {X : List (RU Int)} {R ds : List Int} {s : NS} (hx : rwas X = R.length) : nrun s (bexp (rnm ds.length X) (ds ++ R)) = nrun ⟨s.out, s.put, s.drop + (bl ds : Nat)⟩ (bexp X R) ∨ (nrun s (bexp (rnm ds.length X) (ds ++ R))).all = (nrun ⟨s.out, s.put, s.drop + (bl ds : Nat)⟩ (bexp X R)).all := by
  refine .inr ?_
  induction X generalizing R ds s with
  | nil =>
    obtain rfl : R = [] := List.length_eq_zero_iff.1 hx.symm
    have h := bexp_ds ds [] []
    rw [List.append_nil] at h
    rw [rnm, h]
    simp only [bexp, List.append_nil]
    rw [nrun_d1, nrun_nil]
  | cons x X ih =>
    cases x with
    | p r =>
      simp only [rnm, bexp]
      rw [nrun_append, nrun_bytes, ih hx, nrun_append, nrun_bytes]
    | d =>
      cases R with
      | nil => simp [rwas] at hx
      | cons q R =>
        have h := ih (R := R) (ds := ds ++ [q]) (s := s) (by simpa [rwas] using hx)
        rw [List.length_append, List.append_assoc] at h
        simp only [rnm, bexp]
        rw [nrun_append, nrun_d1]
        simp only [List.length_cons, List.length_nil, Nat.zero_add, List.cons_append, List.nil_append, bl_append, bl_cons, bl_nil] at h
        rw [h]
        congr 3
        push_cast
        omega
    | k =>
      cases R with
      | nil => simp [rwas] at hx
      | cons q R =>
        obtain ⟨n, hn⟩ := wid_succ q
        rw [rnm, bexp_ds]
        simp only [bexp]
        rw [nrun_append, nrun_d1, nrun_append, nrun_append, hn, nrun_k1]
        have h := ih (R := R) (ds := []) (s := NS.kept ⟨s.out, s.put, s.drop + (bl ds : Nat)⟩ ⟨(n : Int) + 1, 0, []⟩) (by simpa [rwas] using hx)
        simp only [List.length_nil, List.nil_append, bl_nil] at h
        rw [h]
        rw [show ((0 : Nat) : Int) = 0 from rfl, Int.add_zero]
theorem urun_rnm {X : List (RU Int)} {R : List Int} (hx : rwas X = R.length) : urun (bexp X R) = urun (bexp (rnm 0 X) R) := by
  rcases nrun_rnm (ds := []) (s := .zero) hx with h | h
  · simp only [List.length_nil, List.nil_append, bl_nil] at h
    unfold urun
    rw [h]; rfl
  · simp only [List.length_nil, List.nil_append, bl_nil] at h
    unfold urun
    rw [h]; rfl
/-- What comes of an operation that is made: nothing is wrong. -/
def KPost (X : List (RU Int)) (R : List Int) (w : World) (e : Ending) (w' : World) : Prop :=
  Below w.heap.size w w' ∧ ∃ v l, e = .returned (.tuple #[v, .nilIface]) ∧ (OpR l X R ∧ l = urun (bexp X R)) ∧ Sl w' 3 v l.length (opv l)
theorem ktrans_calls {la lb : List PT} {X Y : List (RU Int)} {R : List Int} {va vb : Value} {first : Bool} {w : World} (hg : Hdl w) (ha : Sl w 3 va la.length (opv la)) (hb : Sl w 3 vb lb.length (opv lb)) (hA : OpB la X R) (hB : OpB lb Y R) :
    Calls Tryd.prog 46 #[va, vb, .bool first] w (KPost (rnm 0 (rtr first (rnm 0 X) (rnm 0 Y))) (rap Y R) w) := by
  refine (otrans_mo hg ha hb hA.mo hB.mo).mono ?_
  rintro e w' ⟨hb, v, rfl, hs, -⟩
  have hc : trc la lb = 0 := by
    unfold trc
    rw [if_pos (hA.chk2_ hB), if_pos (by rw [hA.op.sizes.1, hB.op.sizes.1])]
  have hx := rnm_was 0 X
  have hy := rnm_was 0 Y
  have e1 : rap (rnm 0 Y) R = rap Y R := by rw [rnm_rap 0 Y R (by have := hB.op.was_; omega)]; rfl
  have hw1 := hA.op.norm_
  have hw2 := hB.op.norm_
  have e2 : tr first (expand (norm la)) (expand (norm lb)) = bexp (rtr first (rnm 0 X) (rnm 0 Y)) (rap Y R) := by
    rw [hw1.expand_, hw2.expand_, tr_bexp hw1.was_ hw2.was_, e1]
  have hm := rtr_meet (first := first) (X := rnm 0 X) (Y := rnm 0 Y) (R := R) hw1.was_ hw2.was_
  have hl : rwas (rtr first (rnm 0 X) (rnm 0 Y)) = (rap Y R).length := by rw [hm.2.1, ← e1, rap_len hw2.was_]
  have hp : AllP (rtr first (rnm 0 X) (rnm 0 Y)) := fun r hr => hw1.allP r (rtr_mem hr)
  rw [e2, hc] at hs
  refine ⟨hb, v, _, by rw [hc, errOf_zero], ⟨urun_bexp hl hp, urun_rnm hl⟩, hs rfl⟩
theorem kapply_calls {l : List PT} {X : List (RU Int)} {R : List Int} {v : Value} {w : World} (hg : Hdl w) (hs : Sl w 3 v l.length (opv l)) (hA : OpB l X R) (hR : U.AllR R) :
    Calls Tryd.prog 27 #[v, .string ⟨(U.encs R).toArray⟩] w fun e w' => e = .returned (.tuple #[.string ⟨(U.encs (rap X R)).toArray⟩, .nilIface]) ∧ Below w.heap.size w w' := by
  have hp := hA.p
  have hr := hA.r
  have hl : (U.encs R).length = bl R := rfl
  refine (oapply_calls hg hs (fun p hp' => by have := plen_mem' hp'; omega) (by omega) (by omega)).mono ?_
  rintro e w' ⟨rfl, hb⟩
  obtain ⟨h1, h2⟩ := hA.op.apply hR
  exact ⟨by rw [h1, h2, errOf_zero], hb⟩
theorem rcm_mem {X Y : List (RU Int)} {r : Int} (h : .p r ∈ rcm X Y) : .p r ∈ X ∨ .p r ∈ Y := by
  generalize hm : X.length + Y.length = m
  induction m using Nat.strongRecOn generalizing X Y with
  | _ m ih =>
    have step : ∀ (X' Y' : List (RU Int)), X'.length + Y'.length < m → .p r ∈ rcm X' Y' → .p r ∈ X' ∨ .p r ∈ Y' := fun X' Y' h1 h2 => ih _ h1 h2 rfl
    clear ih
    match X, Y with
    | .d :: X, Y => have := step X Y (by simp at hm ⊢; omega); simp_all [rcm]
    | .p s :: X, .p q :: Y => have := step (.p s :: X) Y (by simp at hm ⊢; omega); simp only [rcm, List.mem_cons, RU.p.injEq] at h this ⊢; rcases h with h | h <;> simp_all; rcases this with h | h <;> simp_all
    | .k :: X, .p s :: Y => have := step (.k :: X) Y (by simp at hm ⊢; omega); simp only [rcm, List.mem_cons, RU.p.injEq] at h this ⊢; rcases h with h | h <;> simp_all; rcases this with h | h <;> simp_all
    | [], .p s :: Y => have := step [] Y (by simp at hm ⊢; omega); simp only [rcm, List.mem_cons, RU.p.injEq] at h this ⊢; rcases h with h | h <;> simp_all
    | .p s :: X, .k :: Y => have := step X Y (by simp at hm ⊢; omega); simp only [rcm, List.mem_cons, RU.p.injEq] at h this ⊢; rcases h with h | h <;> simp_all; rcases this with h | h <;> simp_all
    | .p s :: X, .d :: Y => have := step X Y (by simp at hm ⊢; omega); simp only [rcm, List.mem_cons, RU.p.injEq] at h this ⊢; have := this h; rcases this with h | h <;> simp_all
    | .k :: X, .k :: Y => have := step X Y (by simp at hm ⊢; omega); simp_all [rcm]
    | .k :: X, .d :: Y => have := step X Y (by simp at hm ⊢; omega); simp_all [rcm]
    | .p s :: X, [] => simp [rcm] at h
    | .k :: X, [] => simp [rcm] at h
    | [], .k :: Y => simp [rcm] at h
    | [], .d :: Y => simp [rcm] at h
    | [], [] => simp [rcm] at h
theorem kcomp_calls {la lb : List PT} {X Y : List (RU Int)} {R : List Int} {va vb : Value} {w : World} (hg : Hdl w) (ha : Sl w 3 va la.length (opv la)) (hb : Sl w 3 vb lb.length (opv lb)) (hA : OpB la X R) (hB : OpB lb Y (rap X R)) :
    Calls Tryd.prog 55 #[va, vb] w (KPost (rnm 0 (rcm X Y)) R w) := by
  refine (ocomp_mo hg ha hb hA.mo hB.mo).mono ?_
  rintro e w' ⟨hb, v, rfl, hs, -⟩
  have hc : cmc la lb = 0 := by
    unfold cmc
    rw [if_pos (hA.chk2_ hB), if_pos (by rw [hA.op.sizes.2, hB.op.sizes.1])]
  have hy : rwas Y = rlen X := by rw [hB.op.was_, rap_len hA.op.was_]
  have e2 : cm (expand la) (expand lb) = bexp (rcm X Y) R := by
    rw [hA.op.expand_, hB.op.expand_, cm_bexp hA.op.was_ hy]
  have hl : rwas (rcm X Y) = R.length := by rw [(rcm_was hy).1, hA.op.was_]
  have hp : AllP (rcm X Y) := fun r hr => by
    rcases rcm_mem hr with h | h
    · exact hA.op.allP r h
    · exact hB.op.allP r h
  rw [e2, hc] at hs
  exact ⟨hb, v, _, by rw [hc, errOf_zero], ⟨urun_bexp hl hp, urun_rnm hl⟩, hs rfl⟩
theorem rinv_ps (rs : List Int) (X : List (RU Int)) (R : List Int) : rinv (rs.map .p ++ X) R = List.replicate rs.length .d ++ rinv X R := by
  induction rs with
  | nil => rfl
  | cons r rs ih => simp only [List.map_cons, List.cons_append, rinv, ih, List.length_cons, List.replicate_succ]
theorem rinv_ks (rs : List Int) (X : List (RU Int)) (R : List Int) : rinv (List.replicate rs.length .k ++ X) (rs ++ R) = List.replicate rs.length .k ++ rinv X R := by
  induction rs with
  | nil => rfl
  | cons r rs ih => simp only [List.cons_append, rinv, ih, List.length_cons, List.replicate_succ]
theorem rinv_ds (rs : List Int) (X : List (RU Int)) (R : List Int) : rinv (List.replicate rs.length .d ++ X) (rs ++ R) = rs.map .p ++ rinv X R := by
  induction rs with
  | nil => rfl
  | cons r rs ih => simp only [List.map_cons, List.cons_append, rinv, ih, List.length_cons, List.replicate_succ]
theorem rap_ps (rs : List Int) (X : List (RU Int)) (R : List Int) : rap (rs.map .p ++ X) R = rs ++ rap X R := by
  induction rs with
  | nil => rfl
  | cons r rs ih => simp only [List.map_cons, List.cons_append, rap, ih]
theorem rap_ks' (rs : List Int) (X : List (RU Int)) (R : List Int) : rap (List.replicate rs.length .k ++ X) (rs ++ R) = rs ++ rap X R := by
  induction rs with
  | nil => rfl
  | cons r rs ih => simp only [List.cons_append, rap, ih, List.length_cons, List.replicate_succ]
theorem rap_ds' (rs : List Int) (X : List (RU Int)) (R : List Int) : rap (List.replicate rs.length .d ++ X) (rs ++ R) = rap X R := by
  induction rs with
  | nil => rfl
  | cons r rs ih => simp only [List.cons_append, rap, ih, List.length_cons, List.replicate_succ]
theorem OpR.inv_ {l : List PT} {X : List (RU Int)} {R : List Int} (h : OpR l X R) (P : List Int) (hP : U.AllR (P ++ R)) : OpR (inv (U.encs (P ++ R)) (bl P) l) (rinv X R) (rap X R) := by
  induction h generalizing P with
  | nil => exact .nil
  | @put rs l X R h1 h2 _ ih =>
    have i := ih P hP
    have hx : (⟨0, 0, U.encs rs⟩ : PT).ext = 0 := rfl
    rw [inv, hx, Nat.add_zero, rinv_ps, rap_ps]
    have e : invp (U.encs (P ++ R)) (bl P) ⟨0, 0, U.encs rs⟩ = ⟨0, bl rs, []⟩ := by
      unfold invp
      rw [if_pos (encs_ne h1)]; rfl
    rw [e]
    exact .drop h1 i
  | @keep rs l X R h1 _ ih =>
    have hP2 : U.AllR ((P ++ rs) ++ R) := by rwa [List.append_assoc]
    have i := ih (P ++ rs) hP2
    rw [List.append_assoc, bl_append] at i
    have hx : (⟨(bl rs : Int), 0, []⟩ : PT).ext = bl rs := by simp [PT.ext]
    have e : invp (U.encs (P ++ (rs ++ R))) (bl P) ⟨bl rs, 0, []⟩ = ⟨bl rs, 0, []⟩ := by
      unfold invp
      rw [if_neg (by simp), if_neg (by simp)]
    rw [inv, hx, e, rinv_ks, rap_ks']
    exact .keep h1 i
  | @drop rs l X R h1 _ ih =>
    have hP2 : U.AllR ((P ++ rs) ++ R) := by rwa [List.append_assoc]
    have i := ih (P ++ rs) hP2
    rw [List.append_assoc, bl_append] at i
    have hx : (⟨0, (bl rs : Int), []⟩ : PT).ext = bl rs := by simp [PT.ext]
    have := bl_pos h1
    have e : invp (U.encs (P ++ (rs ++ R))) (bl P) ⟨0, bl rs, []⟩ = ⟨0, 0, U.encs rs⟩ := by
      unfold invp
      rw [if_neg (by simp), if_pos (by dsimp only; omega)]
      dsimp only
      rw [Int.toNat_natCast, encs_mid]
    rw [inv, hx, e, rinv_ds, rap_ds']
    exact .put h1 (fun r hr => hP r (by simp [hr])) i
theorem kinv_calls {l : List PT} {X : List (RU Int)} {R : List Int} {v : Value} {w : World} (hg : Hdl w) (hs : Sl w 3 v l.length (opv l)) (hA : OpB l X R) (hR : U.AllR R) :
    Calls Tryd.prog 29 #[v, .string ⟨(U.encs R).toArray⟩] w (KPost (rnm 0 (rinv X R)) (rap X R) w) := by
  have hp := hA.p
  have hr := hA.r
  have hl : (U.encs R).length = bl R := rfl
  refine (oinv_calls hg hs (fun p hp' => by have := plen_mem' hp'; omega) (by omega) (by omega) (by have := hA.len; omega)).mono ?_
  rintro e w' ⟨hb, v, rfl, hs, -⟩
  obtain ⟨h1, h2⟩ := hA.op.apply hR
  have hi := hA.op.inv_ [] hR
  rw [List.nil_append, bl_nil] at hi
  rw [h1, hi.expand_] at hs
  exact ⟨hb, v, _, by rw [h1, errOf_zero], ⟨urun_bexp hi.was_ hi.allP, urun_rnm hi.was_⟩, hs rfl⟩
/-- How great what is made is. -/
theorem OpR.bounds {l : List PT} {X : List (RU Int)} {R : List Int} (h : OpR l X R) : plen l ≤ bl (rap X R) ∧ bl (rap X R) ≤ bl R + plen l := by
  have h1 := plen_comes h.args
  have h2 := comes_bd h.args
  obtain ⟨h3, h4⟩ := h.sizes
  omega
theorem tr_plen {l la lb : List PT} {X Y : List (RU Int)} {R S : List Int} {first : Bool} (h : OpR l (rnm 0 (rtr first (rnm 0 X) (rnm 0 Y))) S) (ha : OpR la X R) (hb : OpR lb Y R) : plen l = plen la := by
  rw [h.plen_, ha.plen_, rws_rnm, (rtr_mask U.wid (by rw [ha.norm_.was_, hb.norm_.was_])).2, rws_rnm]
end Go.Proofs.YtgokmldngnmmhaaDoor
