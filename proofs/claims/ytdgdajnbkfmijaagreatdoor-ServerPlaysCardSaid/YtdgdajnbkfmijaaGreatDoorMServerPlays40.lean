/- Several texts of the proof, one behind the other: OpL, SrvM. -/
import Derived.Test.YtdgdajnbkfmijaaGreatDoorMServerPlays36
import Derived.Test.YtdgdajnbkfmijaaGreatDoorMServerPlays28
import Derived.Test.YtdgdajnbkfmijaaGreatDoorMServerPlays39
import Derived.Test.YtdgdajnbkfmijaaGreatDoorMServerPlays21
/- Transform, Compose, Apply, Invert of operations over runes. -/
namespace Go.Proofs.YtdgdajnbkfmijaaGreatDoor
open Go.RowKit
set_option maxRecDepth 100000
theorem rws_ps (rs : List Int) (X : List (RU Int)) : rws U.wid (rs.map .p ++ X) = bl rs + rws U.wid X := by
  induction rs with
  | nil => simp
  | cons r rs ih => simp only [List.map_cons, List.cons_append, rws, ih, bl_cons]; omega
theorem rws_ks (n : Nat) (X : List (RU Int)) : rws U.wid (List.replicate n .k ++ X) = rws U.wid X := by
  induction n with
  | zero => rfl
  | succ n ih => simp only [List.replicate_succ, List.cons_append, rws, ih]
theorem rws_ds (n : Nat) (X : List (RU Int)) : rws U.wid (List.replicate n .d ++ X) = rws U.wid X := by
  induction n with
  | zero => rfl
  | succ n ih => simp only [List.replicate_succ, List.cons_append, rws, ih]
theorem OpR.plen_ {l : List PT} {X : List (RU Int)} {R : List Int} (h : OpR l X R) : plen l = rws U.wid X := by
  induction h with
  | nil => rfl
  | put _ _ _ ih => rw [plen, rws_ps, ih]; rfl
  | keep _ _ ih => rw [plen, rws_ks, ih]; simp
  | drop _ _ ih => rw [plen, rws_ds, ih]; simp
theorem wsum_bl (R : List Int) : wsum U.wid R = bl R := by
  induction R with
  | nil => rfl
  | cons r R ih => rw [wsum, ih, bl_cons]
theorem parts_le {l : List PT} (h : ∀ p ∈ l, p.arg) : (l.length : Int) ≤ was l + plen l := by
  induction l with
  | nil => simp [was, plen]
  | cons p l ih =>
    have i := ih fun q hq => h q (by simp [hq])
    rw [was, plen, List.length_cons]
    rcases (h p (by simp)).cases with ⟨b, hb, rfl⟩ | ⟨n, hn, rfl⟩ | ⟨n, hn, rfl⟩
    · have := List.length_pos_iff.2 hb
      dsimp only; omega
    · dsimp only [List.length_nil]; omega
    · dsimp only [List.length_nil]; omega
theorem plen_comes {l : List PT} (h : ∀ p ∈ l, p.arg) : (plen l : Int) ≤ comes l := by
  induction l with
  | nil => simp [comes, plen]
  | cons p l ih =>
    have i := ih fun q hq => h q (by simp [hq])
    have := (h p (by simp)).2.1
    rw [comes, plen]
    omega
theorem OpR.args {l : List PT} {X : List (RU Int)} {R : List Int} (h : OpR l X R) : ∀ p ∈ l, p.arg := fun p hp => (h.arg p hp).1
theorem plen_mem' {l : List PT} {p : PT} (h : p ∈ l) : p.put.length ≤ plen l := by
  induction l with
  | nil => cases h
  | cons q l ih =>
    rw [plen]
    rcases List.mem_cons.1 h with rfl | h
    · omega
    · have := ih h; omega
/-- An operation over runes that is not too great. -/
structure OpB (l : List PT) (X : List (RU Int)) (R : List Int) : Prop where
  op : OpR l X R
  r : bl R ≤ 100000
  p : plen l ≤ 100000
theorem OpB.len {l : List PT} {X : List (RU Int)} {R : List Int} (h : OpB l X R) : l.length ≤ 200000 := by
  have h1 := parts_le h.op.args
  have h2 := h.op.sizes.1
  have := h.r
  have := h.p
  omega
theorem OpB.mo {l : List PT} {X : List (RU Int)} {R : List Int} (h : OpB l X R) : Mo l l.length :=
  ⟨fun p hp => by have := plen_mem' hp; have := h.p; omega, by have := h.len; omega, fun _ => by have h2 := h.op.sizes.1; have := h.r; have := h.p; omega⟩
theorem OpB.chk_ {l : List PT} {X : List (RU Int)} {R : List Int} (h : OpB l X R) : chk l (wrap64 (was l)) = 0 := by
  have h2 := h.op.sizes.1
  have := h.r
  rw [wrap_id (by omega) (by omega), h2]
  exact h.op.chk_
theorem OpB.chk2_ {la lb : List PT} {X Y : List (RU Int)} {R S : List Int} (ha : OpB la X R) (hb : OpB lb Y S) : chk2 la lb = 0 := by
  unfold chk2
  rw [if_pos ha.chk_, hb.chk_]
/-- The least form's parts are the same, whether it is laid anew or not. -/
theorem nrun_rnm {X : List (RU Int)} {R ds : List Int} {s : NS} (hx : rwas X = R.length) : nrun s (bexp (rnm ds.length X) (ds ++ R)) = nrun ⟨s.out, s.put, s.drop + (bl ds : Nat)⟩ (bexp X R) ∨ (nrun s (bexp (rnm ds.length X) (ds ++ R))).all = (nrun ⟨s.out, s.put, s.drop + (bl ds : Nat)⟩ (bexp X R)).all := by
  refine .inr ?_
  induction X generalizing R ds s with
  | nil =>
    obtain rfl : R = [] := List.length_eq_zero_iff.1 hx.symm
    have h := bexp_ds ds [] []
    rw [List.append_nil] at h
    rw [rnm, h]
    simp only [bexp, List.append_nil]
    rw [nrun_d1, nrun_nil]
  | cons x X ih =>
    cases x with
    | p r =>
      simp only [rnm, bexp]
      rw [nrun_append, nrun_bytes, ih hx, nrun_append, nrun_bytes]
    | d =>
      cases R with
      | nil => simp [rwas] at hx
      | cons q R =>
        have h := ih (R := R) (ds := ds ++ [q]) (s := s) (by simpa [rwas] using hx)
        rw [List.length_append, List.append_assoc] at h
        simp only [rnm, bexp]
        rw [nrun_append, nrun_d1]
        simp only [List.length_cons, List.length_nil, Nat.zero_add, List.cons_append, List.nil_append, bl_append, bl_cons, bl_nil] at h
        rw [h]
        congr 3
        push_cast
        omega
    | k =>
      cases R with
      | nil => simp [rwas] at hx
      | cons q R =>
        obtain ⟨n, hn⟩ := wid_succ q
        rw [rnm, bexp_ds]
        simp only [bexp]
        rw [nrun_append, nrun_d1, nrun_append, nrun_append, hn, nrun_k1]
        have h := ih (R := R) (ds := []) (s := NS.kept ⟨s.out, s.put, s.drop + (bl ds : Nat)⟩ ⟨(n : Int) + 1, 0, []⟩) (by simpa [rwas] using hx)
        simp only [List.length_nil, List.nil_append, bl_nil] at h
        rw [h]
        rw [show ((0 : Nat) : Int) = 0 from rfl, Int.add_zero]
theorem urun_rnm {X : List (RU Int)} {R : List Int} (hx : rwas X = R.length) : urun (bexp X R) = urun (bexp (rnm 0 X) R) := by
  rcases nrun_rnm (ds := []) (s := .zero) hx with h | h
  · simp only [List.length_nil, List.nil_append, bl_nil] at h
    unfold urun
    rw [h]; rfl
  · simp only [List.length_nil, List.nil_append, bl_nil] at h
    unfold urun
    rw [h]; rfl
/-- What comes of an operation that is made: nothing is wrong. -/
def KPost (X : List (RU Int)) (R : List Int) (w : World) (e : Ending) (w' : World) : Prop :=
  Below w.heap.size w w' ∧ ∃ v l, e = .returned (.tuple #[v, .nilIface]) ∧ (OpR l X R ∧ l = urun (bexp X R)) ∧ Sl w' 3 v l.length (opv l)
theorem ktrans_calls {la lb : List PT} {X Y : List (RU Int)} {R : List Int} {va vb : Value} {first : Bool} {w : World} (hg : Hdl w) (ha : Sl w 3 va la.length (opv la)) (hb : Sl w 3 vb lb.length (opv lb)) (hA : OpB la X R) (hB : OpB lb Y R) :
    Calls Tryz.prog 93 #[va, vb, .bool first] w (KPost (rnm 0 (rtr first (rnm 0 X) (rnm 0 Y))) (rap Y R) w) := by
  refine (otrans_mo hg ha hb hA.mo hB.mo).mono ?_
  rintro e w' ⟨hb, v, rfl, hs, -⟩
  have hc : trc la lb = 0 := by
    unfold trc
    rw [if_pos (hA.chk2_ hB), if_pos (by rw [hA.op.sizes.1, hB.op.sizes.1])]
  have hx := rnm_was 0 X
  have hy := rnm_was 0 Y
  have e1 : rap (rnm 0 Y) R = rap Y R := by rw [rnm_rap 0 Y R (by have := hB.op.was_; omega)]; rfl
  have hw1 := hA.op.norm_
  have hw2 := hB.op.norm_
  have e2 : tr first (expand (norm la)) (expand (norm lb)) = bexp (rtr first (rnm 0 X) (rnm 0 Y)) (rap Y R) := by
    rw [hw1.expand_, hw2.expand_, tr_bexp hw1.was_ hw2.was_, e1]
  have hm := rtr_meet (first := first) (X := rnm 0 X) (Y := rnm 0 Y) (R := R) hw1.was_ hw2.was_
  have hl : rwas (rtr first (rnm 0 X) (rnm 0 Y)) = (rap Y R).length := by rw [hm.2.1, ← e1, rap_len hw2.was_]
  have hp : AllP (rtr first (rnm 0 X) (rnm 0 Y)) := fun r hr => hw1.allP r (rtr_mem hr)
  rw [e2, hc] at hs
  refine ⟨hb, v, _, by rw [hc, errOf_zero], ⟨urun_bexp hl hp, urun_rnm hl⟩, hs rfl⟩
theorem kapply_calls {l : List PT} {X : List (RU Int)} {R : List Int} {v : Value} {w : World} (hg : Hdl w) (hs : Sl w 3 v l.length (opv l)) (hA : OpB l X R) (hR : U.AllR R) :
    Calls Tryz.prog 94 #[v, .string ⟨(U.encs R).toArray⟩] w fun e w' => e = .returned (.tuple #[.string ⟨(U.encs (rap X R)).toArray⟩, .nilIface]) ∧ Below w.heap.size w w' := by
  have hp := hA.p
  have hr := hA.r
  have hl : (U.encs R).length = bl R := rfl
  refine (oapply_calls hg hs (fun p hp' => by have := plen_mem' hp'; omega) (by omega) (by omega)).mono ?_
  rintro e w' ⟨rfl, hb⟩
  obtain ⟨h1, h2⟩ := hA.op.apply hR
  exact ⟨by rw [h1, h2, errOf_zero], hb⟩
theorem rcm_mem {X Y : List (RU Int)} {r : Int} (h : .p r ∈ rcm X Y) : .p r ∈ X ∨ .p r ∈ Y := by
  generalize hm : X.length + Y.length = m
  induction m using Nat.strongRecOn generalizing X Y with
  | _ m ih =>
    have step : ∀ (X' Y' : List (RU Int)), X'.length + Y'.length < m → .p r ∈ rcm X' Y' → .p r ∈ X' ∨ .p r ∈ Y' := fun X' Y' h1 h2 => ih _ h1 h2 rfl
    clear ih
    match X, Y with
    | .d :: X, Y => have := step X Y (by simp at hm ⊢; omega); simp_all [rcm]
    | .p s :: X, .p q :: Y => have := step (.p s :: X) Y (by simp at hm ⊢; omega); simp only [rcm, List.mem_cons, RU.p.injEq] at h this ⊢; rcases h with h | h <;> simp_all; rcases this with h | h <;> simp_all
    | .k :: X, .p s :: Y => have := step (.k :: X) Y (by simp at hm ⊢; omega); simp only [rcm, List.mem_cons, RU.p.injEq] at h this ⊢; rcases h with h | h <;> simp_all; rcases this with h | h <;> simp_all
    | [], .p s :: Y => have := step [] Y (by simp at hm ⊢; omega); simp only [rcm, List.mem_cons, RU.p.injEq] at h this ⊢; rcases h with h | h <;> simp_all
    | .p s :: X, .k :: Y => have := step X Y (by simp at hm ⊢; omega); simp only [rcm, List.mem_cons, RU.p.injEq] at h this ⊢; rcases h with h | h <;> simp_all; rcases this with h | h <;> simp_all
    | .p s :: X, .d :: Y => have := step X Y (by simp at hm ⊢; omega); simp only [rcm, List.mem_cons, RU.p.injEq] at h this ⊢; have := this h; rcases this with h | h <;> simp_all
    | .k :: X, .k :: Y => have := step X Y (by simp at hm ⊢; omega); simp_all [rcm]
    | .k :: X, .d :: Y => have := step X Y (by simp at hm ⊢; omega); simp_all [rcm]
    | .p s :: X, [] => simp [rcm] at h
    | .k :: X, [] => simp [rcm] at h
    | [], .k :: Y => simp [rcm] at h
    | [], .d :: Y => simp [rcm] at h
    | [], [] => simp [rcm] at h
theorem kcomp_calls {la lb : List PT} {X Y : List (RU Int)} {R : List Int} {va vb : Value} {w : World} (hg : Hdl w) (ha : Sl w 3 va la.length (opv la)) (hb : Sl w 3 vb lb.length (opv lb)) (hA : OpB la X R) (hB : OpB lb Y (rap X R)) :
    Calls Tryz.prog 77 #[va, vb] w (KPost (rnm 0 (rcm X Y)) R w) := by
  refine (ocomp_mo hg ha hb hA.mo hB.mo).mono ?_
  rintro e w' ⟨hb, v, rfl, hs, -⟩
  have hc : cmc la lb = 0 := by
    unfold cmc
    rw [if_pos (hA.chk2_ hB), if_pos (by rw [hA.op.sizes.2, hB.op.sizes.1])]
  have hy : rwas Y = rlen X := by rw [hB.op.was_, rap_len hA.op.was_]
  have e2 : cm (expand la) (expand lb) = bexp (rcm X Y) R := by
    rw [hA.op.expand_, hB.op.expand_, cm_bexp hA.op.was_ hy]
  have hl : rwas (rcm X Y) = R.length := by rw [(rcm_was hy).1, hA.op.was_]
  have hp : AllP (rcm X Y) := fun r hr => by
    rcases rcm_mem hr with h | h
    · exact hA.op.allP r h
    · exact hB.op.allP r h
  rw [e2, hc] at hs
  exact ⟨hb, v, _, by rw [hc, errOf_zero], ⟨urun_bexp hl hp, urun_rnm hl⟩, hs rfl⟩
theorem rinv_ps (rs : List Int) (X : List (RU Int)) (R : List Int) : rinv (rs.map .p ++ X) R = List.replicate rs.length .d ++ rinv X R := by
  induction rs with
  | nil => rfl
  | cons r rs ih => simp only [List.map_cons, List.cons_append, rinv, ih, List.length_cons, List.replicate_succ]
theorem rinv_ks (rs : List Int) (X : List (RU Int)) (R : List Int) : rinv (List.replicate rs.length .k ++ X) (rs ++ R) = List.replicate rs.length .k ++ rinv X R := by
  induction rs with
  | nil => rfl
  | cons r rs ih => simp only [List.cons_append, rinv, ih, List.length_cons, List.replicate_succ]
theorem rinv_ds (rs : List Int) (X : List (RU Int)) (R : List Int) : rinv (List.replicate rs.length .d ++ X) (rs ++ R) = rs.map .p ++ rinv X R := by
  induction rs with
  | nil => rfl
  | cons r rs ih => simp only [List.map_cons, List.cons_append, rinv, ih, List.length_cons, List.replicate_succ]
theorem rap_ps (rs : List Int) (X : List (RU Int)) (R : List Int) : rap (rs.map .p ++ X) R = rs ++ rap X R := by
  induction rs with
  | nil => rfl
  | cons r rs ih => simp only [List.map_cons, List.cons_append, rap, ih]
theorem rap_ks' (rs : List Int) (X : List (RU Int)) (R : List Int) : rap (List.replicate rs.length .k ++ X) (rs ++ R) = rs ++ rap X R := by
  induction rs with
  | nil => rfl
  | cons r rs ih => simp only [List.cons_append, rap, ih, List.length_cons, List.replicate_succ]
theorem rap_ds' (rs : List Int) (X : List (RU Int)) (R : List Int) : rap (List.replicate rs.length .d ++ X) (rs ++ R) = rap X R := by
  induction rs with
  | nil => rfl
  | cons r rs ih => simp only [List.cons_append, rap, ih, List.length_cons, List.replicate_succ]
theorem OpR.inv_ {l : List PT} {X : List (RU Int)} {R : List Int} (h : OpR l X R) (P : List Int) (hP : U.AllR (P ++ R)) : OpR (inv (U.encs (P ++ R)) (bl P) l) (rinv X R) (rap X R) := by
  induction h generalizing P with
  | nil => exact .nil
  | @put rs l X R h1 h2 _ ih =>
    have i := ih P hP
    have hx : (⟨0, 0, U.encs rs⟩ : PT).ext = 0 := rfl
    rw [inv, hx, Nat.add_zero, rinv_ps, rap_ps]
    have e : invp (U.encs (P ++ R)) (bl P) ⟨0, 0, U.encs rs⟩ = ⟨0, bl rs, []⟩ := by
      unfold invp
      rw [if_pos (encs_ne h1)]; rfl
    rw [e]
    exact .drop h1 i
  | @keep rs l X R h1 _ ih =>
    have hP2 : U.AllR ((P ++ rs) ++ R) := by rwa [List.append_assoc]
    have i := ih (P ++ rs) hP2
    rw [List.append_assoc, bl_append] at i
    have hx : (⟨(bl rs : Int), 0, []⟩ : PT).ext = bl rs := by simp [PT.ext]
    have e : invp (U.encs (P ++ (rs ++ R))) (bl P) ⟨bl rs, 0, []⟩ = ⟨bl rs, 0, []⟩ := by
      unfold invp
      rw [if_neg (by simp), if_neg (by simp)]
    rw [inv, hx, e, rinv_ks, rap_ks']
    exact .keep h1 i
  | @drop rs l X R h1 _ ih =>
    have hP2 : U.AllR ((P ++ rs) ++ R) := by rwa [List.append_assoc]
    have i := ih (P ++ rs) hP2
    rw [List.append_assoc, bl_append] at i
    have hx : (⟨0, (bl rs : Int), []⟩ : PT).ext = bl rs := by simp [PT.ext]
    have := bl_pos h1
    have e : invp (U.encs (P ++ (rs ++ R))) (bl P) ⟨0, bl rs, []⟩ = ⟨0, 0, U.encs rs⟩ := by
      unfold invp
      rw [if_neg (by simp), if_pos (by dsimp only; omega)]
      dsimp only
      rw [Int.toNat_natCast, encs_mid]
    rw [inv, hx, e, rinv_ds, rap_ds']
    exact .put h1 (fun r hr => hP r (by simp [hr])) i
/-- How great what is made is. -/
theorem OpR.bounds {l : List PT} {X : List (RU Int)} {R : List Int} (h : OpR l X R) : plen l ≤ bl (rap X R) ∧ bl (rap X R) ≤ bl R + plen l := by
  have h1 := plen_comes h.args
  have h2 := comes_bd h.args
  obtain ⟨h3, h4⟩ := h.sizes
  omega
theorem tr_plen {l la lb : List PT} {X Y : List (RU Int)} {R S : List Int} {first : Bool} (h : OpR l (rnm 0 (rtr first (rnm 0 X) (rnm 0 Y))) S) (ha : OpR la X R) (hb : OpR lb Y R) : plen l = plen la := by
  rw [h.plen_, ha.plen_, rws_rnm, (rtr_mask U.wid (by rw [ha.norm_.was_, hb.norm_.was_])).2, rws_rnm]
end Go.Proofs.YtdgdajnbkfmijaaGreatDoor
/- A server in plain Lean: what is done, over texts of bytes. -/
namespace Go.Proofs.YtdgdajnbkfmijaaGreatDoor
open Go.RowKit
set_option maxRecDepth 100000
/-- What Transform makes. -/
def trl (first : Bool) (a b : List PT) : List PT := urun (tr first (expand (norm a)) (expand (norm b)))
theorem trl_opr {first : Bool} {la lb : List PT} {X Y : List (RU Int)} {R : List Int} (hA : OpR la X R) (hB : OpR lb Y R) : OpR (trl first la lb) (rnm 0 (rtr first (rnm 0 X) (rnm 0 Y))) (rap Y R) := by
  have e1 : rap (rnm 0 Y) R = rap Y R := by rw [rnm_rap 0 Y R (by have := hB.was_; omega)]; rfl
  have hw1 := hA.norm_
  have hw2 := hB.norm_
  have e2 : tr first (expand (norm la)) (expand (norm lb)) = bexp (rtr first (rnm 0 X) (rnm 0 Y)) (rap Y R) := by
    rw [hw1.expand_, hw2.expand_, tr_bexp hw1.was_ hw2.was_, e1]
  have hm := rtr_meet (first := first) (X := rnm 0 X) (Y := rnm 0 Y) (R := R) hw1.was_ hw2.was_
  have hl : rwas (rtr first (rnm 0 X) (rnm 0 Y)) = (rap Y R).length := by rw [hm.2.1, ← e1, rap_len hw2.was_]
  have hp : AllP (rtr first (rnm 0 X) (rnm 0 Y)) := fun r hr => hw1.allP r (rtr_mem hr)
  unfold trl
  rw [e2]
  exact urun_bexp hl hp
/-- A text of so many bytes, each a rune. -/
def zs (n : Nat) : List Int := List.replicate n 48
theorem bl_zs (n : Nat) : bl (zs n) = n := by
  induction n with
  | zero => rfl
  | succ n ih =>
    have e : zs (n + 1) = 48 :: zs n := rfl
    have h1 : U.wid 48 = 1 := by decide
    rw [e, bl_cons, ih, h1]
    omega
theorem zs_add (a b : Nat) : zs (a + b) = zs a ++ zs b := by unfold zs; rw [List.replicate_append_replicate]
theorem zs_ne {n : Nat} (h : 0 < n) : zs n ≠ [] := fun e => by
  have := congrArg List.length e
  unfold zs at this
  simp at this
  omega
/-- An operation that may be is one over runes of a byte each. -/
theorem good_opr {l : List PT} (h : ∀ p ∈ l, p.Good) {n : Nat} (hw : was l = n) : ∃ X, OpR l X (zs n) := by
  induction l generalizing n with
  | nil =>
    obtain rfl : n = 0 := by rw [was] at hw; omega
    exact ⟨_, .nil⟩
  | cons p l ih =>
    have hp := h p (by simp)
    have hl : ∀ q ∈ l, q.Good := fun q hq => h q (by simp [hq])
    have hnn := was_nn (fun q hq => (hl q hq).1)
    rw [was] at hw
    rcases hp.1.cases with ⟨b, hb, rfl⟩ | ⟨m, hm, rfl⟩ | ⟨m, hm, rfl⟩
    · obtain ⟨rs, h1, h2, rfl⟩ := opR_put hp
      obtain ⟨X, hX⟩ := ih hl (n := n) (by dsimp only at hw; omega)
      exact ⟨_, .put h1 h2 hX⟩
    · obtain ⟨X, hX⟩ := ih hl (n := n - m) (by dsimp only at hw; omega)
      have e : zs n = zs m ++ zs (n - m) := by rw [← zs_add]; congr 1; dsimp only at hw; omega
      have := OpR.drop (rs := zs m) (zs_ne hm) hX
      rw [bl_zs] at this
      rw [e]
      exact ⟨_, this⟩
    · obtain ⟨X, hX⟩ := ih hl (n := n - m) (by dsimp only at hw; omega)
      have e : zs n = zs m ++ zs (n - m) := by rw [← zs_add]; congr 1; dsimp only at hw; omega
      have := OpR.keep (rs := zs m) (zs_ne hm) hX
      rw [bl_zs] at this
      rw [e]
      exact ⟨_, this⟩
theorem trl_good {first : Bool} {a b : List PT} {n : Nat} (ha : ∀ p ∈ a, p.Good) (hb : ∀ p ∈ b, p.Good) (wa : was a = n) (wb : was b = n) : (∀ p ∈ trl first a b, p.Good) ∧ was (trl first a b) = comes b ∧ plen (trl first a b) = plen a := by
  obtain ⟨X, hX⟩ := good_opr ha wa
  obtain ⟨Y, hY⟩ := good_opr hb wb
  have h := trl_opr (first := first) hX hY
  exact ⟨h.arg, by rw [h.sizes.1, hY.sizes.2], tr_plen h hX hY⟩
/-- What Apply takes is an operation over runes. -/
theorem aok_opr {P Q : List Int} {l : List PT} (hA : U.AllR (P ++ Q)) (hg : ∀ p ∈ l, p.Good) (hw : wasN l = bl Q) (hk : aok (U.encs (P ++ Q)) (bl P) l = true) : ∃ X, OpR l X Q := by
  induction l generalizing P Q with
  | nil =>
    rw [wasN] at hw
    have : Q = [] := by
      cases Q with
      | nil => rfl
      | cons q Q => have := bl_pos (rs := q :: Q) (by simp); omega
    subst this
    exact ⟨_, .nil⟩
  | cons p l ih =>
    have hp := hg p (by simp)
    have hl : ∀ q ∈ l, q.Good := fun q hq => hg q (by simp [hq])
    rw [aok, Bool.and_eq_true, Bool.and_eq_true] at hk
    obtain ⟨⟨-, hk1⟩, hk2⟩ := hk
    rw [wasN] at hw
    have cut : ∀ m : Nat, 0 < m → p.ext = m → ∃ d q, Q = d ++ q ∧ bl d = m ∧ d ≠ [] := by
      intro m hm he
      rw [he] at hk1 hw
      rw [edg_redg', redg_iff hA (by rw [bl_append]; omega)] at hk1
      obtain ⟨p2, q2, e2, hb2⟩ := hk1
      rcases List.append_eq_append_iff.1 e2 with ⟨d, rfl, hq⟩ | ⟨d, rfl, -⟩
      · rw [bl_append] at hb2
        exact ⟨d, q2, hq, by omega, fun e => by subst e; simp at hb2; omega⟩
      · rw [bl_append] at hb2
        omega
    rcases hp.1.cases with ⟨b, hb, rfl⟩ | ⟨m, hm, rfl⟩ | ⟨m, hm, rfl⟩
    · obtain ⟨rs, h1, h2, rfl⟩ := opR_put hp
      have he : (⟨0, 0, U.encs rs⟩ : PT).ext = 0 := rfl
      rw [he] at hk2 hw
      obtain ⟨X, hX⟩ := ih hA hl (by omega) hk2
      exact ⟨_, .put h1 h2 hX⟩
    · have he : (⟨0, (m : Int), []⟩ : PT).ext = m := by simp [PT.ext]
      obtain ⟨d, q, rfl, hd, hn⟩ := cut m hm he
      rw [he] at hk2 hw
      rw [← List.append_assoc] at hA hk2
      obtain ⟨X, hX⟩ := ih (P := P ++ d) hA hl (by rw [bl_append] at hw; omega) (by rw [bl_append, hd]; exact hk2)
      have := OpR.drop hn hX
      rw [hd] at this
      exact ⟨_, this⟩
    · have he : (⟨(m : Int), 0, []⟩ : PT).ext = m := by simp [PT.ext]
      obtain ⟨d, q, rfl, hd, hn⟩ := cut m hm he
      rw [he] at hk2 hw
      rw [← List.append_assoc] at hA hk2
      obtain ⟨X, hX⟩ := ih (P := P ++ d) hA hl (by rw [bl_append] at hw; omega) (by rw [bl_append, hd]; exact hk2)
      have := OpR.keep hn hX
      rw [hd] at this
      exact ⟨_, this⟩
theorem apc_chk {l : List PT} {s : U.Bs} (h : apc l s = 0) : chk l s.length = 0 ∧ aok s 0 l = true := by
  unfold apc at h
  split at h
  · rename_i h1
    refine ⟨h1, ?_⟩
    split at h
    · assumption
    · exact absurd h (by decide)
  · rename_i h1; exact absurd h h1
theorem apc_opr {l : List PT} {R : List Int} (hR : U.AllR R) (h : apc l (U.encs R) = 0) : ∃ X, OpR l X R := by
  obtain ⟨h1, h2⟩ := apc_chk h
  obtain ⟨hg, hw⟩ := chk_was h1
  exact aok_opr (P := []) (Q := R) hR hg hw h2
/-- An entry: whose, which of theirs, what it does. -/
structure EN where
  who : Int
  id : Int
  op : List PT
/-- A server: all documents that there were, what was done, and what each was answered last. -/
structure SV where
  docs : List U.Bs
  log : List EN
  last : Int → Option (Int × Int)
  tk : Nat
def SV.doc (S : SV) : U.Bs := (S.docs[S.log.length]?).getD []
def folt (op : List PT) (l : List EN) : List PT := l.foldl (fun o e => trl false o e.op) op
theorem folt_nil (op : List PT) : folt op [] = op := rfl
theorem folt_snoc (op : List PT) (l : List EN) (e : EN) : folt op (l ++ [e]) = trl false (folt op l) e.op := by unfold folt; rw [List.foldl_append]; rfl
noncomputable def SV.does (S : SV) (who id rev : Int) (op : List PT) : Int × SV :=
  if rev < 0 ∨ (S.log.length : Int) < rev then (2, S)
  else if 300 ≤ S.log.length then (4, S)
  else if chk op (((S.docs[rev.toNat]?).getD []).length : Nat) ≠ 0 then (chk op (((S.docs[rev.toNat]?).getD []).length : Nat), S)
  else if apc (folt op (S.log.drop rev.toNat)) S.doc ≠ 0 then (apc (folt op (S.log.drop rev.toNat)) S.doc, S)
  else if 2000 < (apr (folt op (S.log.drop rev.toNat)) S.doc).length then (12, S)
  else (0, ⟨S.docs ++ [apr (folt op (S.log.drop rev.toNat)) S.doc], S.log ++ [⟨who, id, folt op (S.log.drop rev.toNat)⟩], S.last, S.tk⟩)
noncomputable def SV.fresh (S : SV) (who id rev : Int) (op : List PT) : Int × SV :=
  ((S.does who id rev op).1, { (S.does who id rev op).2 with last := fun x => if x = who then some (id, (S.does who id rev op).1) else S.last x, tk := S.tk + 1 })
noncomputable def SV.take (S : SV) (who id rev : Int) (op : List PT) : Int × SV :=
  match S.last who with
  | some (i, k) => if id < i then (8, S) else if id = i then (k, S) else S.fresh who id rev op
  | none => S.fresh who id rev op
/-- What holds of a server at all times. -/
structure SVok (S : SV) : Prop where
  len : S.docs.length = S.log.length + 1
  txt : ∀ d ∈ S.docs, ∃ R, U.AllR R ∧ d = U.encs R ∧ bl R ≤ 2000
  step : ∀ i e d d', S.log[i]? = some e → S.docs[i]? = some d → S.docs[i + 1]? = some d' → apc e.op d = 0 ∧ apr e.op d = d'
theorem SVok.at_ {S : SV} (h : SVok S) {i : Nat} (hi : i ≤ S.log.length) : ∃ R, S.docs[i]? = some (U.encs R) ∧ U.AllR R ∧ bl R ≤ 2000 := by
  have hl : i < S.docs.length := by rw [h.len]; omega
  obtain ⟨R, h1, h2, h3⟩ := h.txt _ (List.getElem_mem hl)
  exact ⟨R, by rw [List.getElem?_eq_getElem hl, h2], h1, h3⟩
theorem SVok.doc_ {S : SV} (h : SVok S) : ∃ R, S.doc = U.encs R ∧ U.AllR R ∧ bl R ≤ 2000 ∧ S.docs[S.log.length]? = some (U.encs R) := by
  obtain ⟨R, h1, h2, h3⟩ := h.at_ (Nat.le_refl _)
  exact ⟨R, by unfold SV.doc; rw [h1]; rfl, h2, h3, h1⟩
/-- An entry: over the document that there was. -/
theorem SVok.entry {S : SV} (h : SVok S) {i : Nat} {e : EN} (he : S.log[i]? = some e) : ∃ R X, S.docs[i]? = some (U.encs R) ∧ U.AllR R ∧ bl R ≤ 2000 ∧ OpR e.op X R ∧ S.docs[i + 1]? = some (U.encs (rap X R)) ∧ bl (rap X R) ≤ 2000 ∧ U.AllR (rap X R) := by
  have hi : i < S.log.length := (List.getElem?_eq_some_iff.1 he).1
  obtain ⟨R, h1, h2, h3⟩ := h.at_ (i := i) (by omega)
  obtain ⟨R', k1, k2, k3⟩ := h.at_ (i := i + 1) (by omega)
  obtain ⟨a1, a2⟩ := h.step i e _ _ he h1 k1
  obtain ⟨X, hX⟩ := apc_opr h2 a1
  have e1 : U.encs R' = U.encs (rap X R) := by rw [← a2, (hX.apply h2).2]
  have e2 : bl (rap X R) = bl R' := by unfold bl; rw [e1]
  exact ⟨R, X, h1, h2, h3, hX, by rw [k1, e1], by omega, rap_all hX.allP h2⟩
theorem SVok.good {S : SV} (h : SVok S) {i : Nat} {e : EN} (he : S.log[i]? = some e) : (∀ p ∈ e.op, p.Good) ∧ was e.op = (((S.docs[i]?).getD []).length : Nat) ∧ comes e.op = (((S.docs[i + 1]?).getD []).length : Nat) ∧ plen e.op ≤ 2000 ∧ was e.op ≤ 2000 ∧ 0 ≤ was e.op ∧ comes e.op ≤ 2000 := by
  obtain ⟨R, X, h1, h2, h3, h4, h5, h6, h7⟩ := h.entry he
  obtain ⟨s1, s2⟩ := h4.sizes
  have hb := h4.bounds
  rw [h1, h5]
  exact ⟨h4.arg, s1, s2, by omega, by omega, by omega, by omega⟩
/-- An operation, over what was done meanwhile. -/
theorem folt_good {S : SV} (h : SVok S) {op : List PT} {r : Nat} (hc : chk op (((S.docs[r]?).getD []).length : Nat) = 0) (k : Nat) (hk : r + k ≤ S.log.length) :
    (∀ p ∈ folt op ((S.log.drop r).take k), p.Good) ∧ was (folt op ((S.log.drop r).take k)) = (((S.docs[r + k]?).getD []).length : Nat) ∧ plen (folt op ((S.log.drop r).take k)) = plen op := by
  induction k with
  | zero =>
    rw [List.take_zero, folt_nil]
    exact ⟨chk_good hc, chk_sum hc, rfl⟩
  | succ k ih =>
    obtain ⟨i1, i2, i3⟩ := ih (by omega)
    have hl : r + k < S.log.length := by omega
    have e1 : (S.log.drop r).take (k + 1) = (S.log.drop r).take k ++ [S.log[r + k]] := by
      rw [List.take_succ_eq_append_getElem (by rw [List.length_drop]; omega)]
      congr 2
      rw [List.getElem_drop]
    obtain ⟨g1, g2, g3, -⟩ := h.good (List.getElem?_eq_getElem hl)
    rw [e1, folt_snoc]
    obtain ⟨t1, t2, t3⟩ := trl_good (first := false) i1 g1 i2 g2
    exact ⟨t1, by rw [t2, g3, Nat.add_assoc], by rw [t3, i3]⟩
/-- .. and what is wrong with a transform of it: nothing. -/
theorem trc_good {a b : List PT} {n : Nat} (ha : ∀ p ∈ a, p.Good) (hb : ∀ p ∈ b, p.Good) (wa : was a = n) (wb : was b = n) (hn : n ≤ 100000) : trc a b = 0 := by
  have w1 : wrap64 (n : Int) = n := wrap_id (by omega) (by omega)
  have c1 := chk_of ha wa
  have c2 := chk_of hb wb
  unfold trc chk2
  rw [wa, wb, w1, c1, c2]
  simp
theorem mo_good {l : List PT} (hg : ∀ p ∈ l, p.Good) (hw : was l ≤ 100000) (hp : plen l ≤ 100000) : Mo l l.length := by
  have h1 := parts_le (fun p hp => (hg p hp).1)
  exact ⟨fun p hp => by have := plen_mem' hp; omega, by omega, fun _ => by omega⟩
theorem getElem?_snoc {α : Type} {l : List α} {x y : α} {i : Nat} (h : (l ++ [x])[i]? = some y) : l[i]? = some y ∨ i = l.length ∧ y = x := by
  rcases Nat.lt_trichotomy i l.length with hi | hi | hi
  · rw [List.getElem?_append_left hi] at h; exact .inl h
  · subst hi; rw [List.getElem?_append_right (Nat.le_refl _)] at h; simp at h; exact .inr ⟨rfl, h.symm⟩
  · rw [List.getElem?_eq_none (by simp; omega)] at h; cases h
/-- What is done keeps it so. -/
theorem SVok.does {S : SV} (h : SVok S) (who id rev : Int) (op : List PT) : SVok (S.does who id rev op).2 := by
  unfold SV.does
  split
  · exact h
  split
  · exact h
  split
  · exact h
  split
  · exact h
  split
  · exact h
  rename_i h1 h2 h3 h4 h5
  have h4 := Decidable.not_not.1 h4
  generalize folt op (S.log.drop rev.toNat) = o at *
  obtain ⟨R, r1, r2, r3, r4⟩ := h.doc_
  rw [r1] at h4 h5 ⊢
  obtain ⟨X, hX⟩ := apc_opr r2 h4
  obtain ⟨a1, a2⟩ := hX.apply r2
  rw [a2] at h5 ⊢
  refine ⟨by simp [h.len], fun d hd => ?_, fun i e d d' he hd hd' => ?_⟩
  · rcases List.mem_append.1 hd with hd | hd
    · exact h.txt d hd
    · obtain rfl := List.mem_singleton.1 hd
      exact ⟨_, rap_all hX.allP r2, rfl, by have : (U.encs (rap X R)).length = bl (rap X R) := rfl; omega⟩
  · dsimp only at he hd hd'
    have hl := h.len
    rcases getElem?_snoc he with he | ⟨rfl, rfl⟩
    · have hi := (List.getElem?_eq_some_iff.1 he).1
      rw [List.getElem?_append_left (by omega)] at hd hd'
      exact h.step i e d d' he hd hd'
    · rw [List.getElem?_append_left (by omega), r4] at hd
      cases hd
      rw [List.getElem?_append_right (by omega), hl] at hd'
      simp at hd'
      exact ⟨a1, by rw [a2, hd']⟩
theorem SVok.take {S : SV} (h : SVok S) (who id rev : Int) (op : List PT) : SVok (S.take who id rev op).2 := by
  have hf : SVok (S.fresh who id rev op).2 := by
    have := h.does who id rev op
    exact ⟨this.len, this.txt, this.step⟩
  unfold SV.take
  split
  · split
    · exact h
    · split
      · exact h
      · exact hf
  · exact hf
/-- A server of a text. -/
def SV.new (s : U.Bs) : SV := ⟨[s], [], fun _ => none, 0⟩
theorem SVok.new {R : List Int} (h : U.AllR R) (hb : bl R ≤ 2000) : SVok (SV.new (U.encs R)) :=
  ⟨rfl, fun d hd => by obtain rfl := List.mem_singleton.1 hd; exact ⟨R, h, rfl, hb⟩, fun i e d d' he => by simp [SV.new] at he⟩
theorem SV.take_len (S : SV) (who id rev : Int) (op : List PT) : (S.take who id rev op).2.log.length = S.log.length ∨ (S.take who id rev op).2.log.length = S.log.length + 1 := by
  have hd : (S.does who id rev op).2.log.length = S.log.length ∨ (S.does who id rev op).2.log.length = S.log.length + 1 := by
    unfold SV.does
    repeat' split
    all_goals simp
  unfold SV.take SV.fresh
  repeat' split
  all_goals simp [hd]
end Go.Proofs.YtdgdajnbkfmijaaGreatDoor
