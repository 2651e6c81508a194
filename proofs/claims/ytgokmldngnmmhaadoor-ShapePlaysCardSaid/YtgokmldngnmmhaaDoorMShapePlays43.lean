/- Several texts of the proof, one behind the other: OpL, ShI, TnB, RopeS, OpsMeetP. -/
import Derived.Test.YtgokmldngnmmhaaDoorMShapePlays37
import Derived.Test.YtgokmldngnmmhaaDoorMShapePlays29
import Derived.Test.YtgokmldngnmmhaaDoorMShapePlays42
import Derived.Test.YtgokmldngnmmhaaDoorMShapePlays24
import Derived.Test.YtgokmldngnmmhaaDoorMShapePlays39
import Derived.Test.YtgokmldngnmmhaaDoorMShapePlays36
import Derived.Test.YtgokmldngnmmhaaDoorMShapePlays38
/- Transform, Compose, Apply, Invert of operations over runes. -/
namespace Go.Proofs.YtgokmldngnmmhaaDoor
open Go.RowKit
set_option maxRecDepth 100000
theorem rws_ps (rs : List Int) (X : List (RU Int)) : rws U.wid (rs.map .p ++ X) = bl rs + rws U.wid X := by
  induction rs with
  | nil => simp
  | cons r rs ih => simp only [List.map_cons, List.cons_append, rws, ih, bl_cons]; omega
theorem rws_ks (n : Nat) (X : List (RU Int)) : rws U.wid (List.replicate n .k ++ X) = rws U.wid X := by
  induction n with
  | zero => rfl
  | succ n ih => simp only [List.replicate_succ, List.cons_append, rws, ih]
theorem rws_ds (n : Nat) (X : List (RU Int)) : rws U.wid (List.replicate n .d ++ X) = rws U.wid X := by
  induction n with
  | zero => rfl
  | succ n ih => simp only [List.replicate_succ, List.cons_append, rws, ih]
theorem OpR.plen_ {l : List PT} {X : List (RU Int)} {R : List Int} (h : OpR l X R) : plen l = rws U.wid X := by
  induction h with
  | nil => rfl
  | put _ _ _ ih => rw [plen, rws_ps, ih]; rfl
  | keep _ _ ih => rw [plen, rws_ks, ih]; simp
  | drop _ _ ih => rw [plen, rws_ds, ih]; simp
theorem wsum_bl (R : List Int) : wsum U.wid R = bl R := by
  induction R with
  | nil => rfl
  | cons r R ih => rw [wsum, ih, bl_cons]
theorem parts_le {l : List PT} (h : ∀ p ∈ l, p.arg) : (l.length : Int) ≤ was l + plen l := by
  induction l with
  | nil => simp [was, plen]
  | cons p l ih =>
    have i := ih fun q hq => h q (by simp [hq])
    rw [was, plen, List.length_cons]
    rcases (h p (by simp)).cases with ⟨b, hb, rfl⟩ | ⟨n, hn, rfl⟩ | ⟨n, hn, rfl⟩
    · have := List.length_pos_iff.2 hb
      dsimp only; omega
    · dsimp only [List.length_nil]; omega
    · dsimp only [List.length_nil]; omega
theorem plen_comes {l : List PT} (h : ∀ p ∈ l, p.arg) : (plen l : Int) ≤ comes l := by
  induction l with
  | nil => simp [comes, plen]
  | cons p l ih =>
    have i := ih fun q hq => h q (by simp [hq])
    have := (h p (by simp)).2.1
    rw [comes, plen]
    omega
theorem OpR.args {l : List PT} {X : List (RU Int)} {R : List Int} (h : OpR l X R) : ∀ p ∈ l, p.arg := fun p hp => (h.arg p hp).1
theorem plen_mem' {l : List PT} {p : PT} (h : p ∈ l) : p.put.length ≤ plen l := by
  induction l with
  | nil => cases h
  | cons q l ih =>
    rw [plen]
    rcases List.mem_cons.1 h with rfl | h
    · omega
    · have := ih h; omega
/-- An operation over runes that is not too great. -/
structure OpB (l : List PT) (X : List (RU Int)) (R : List Int) : Prop where
  op : OpR l X R
  r : bl R ≤ 100000
  p : plen l ≤ 100000
theorem OpB.len {l : List PT} {X : List (RU Int)} {R : List Int} (h : OpB l X R) : l.length ≤ 200000 := by
  have h1 := parts_le h.op.args
  have h2 := h.op.sizes.1
  have := h.r
  have := h.p
  omega
theorem OpB.mo {l : List PT} {X : List (RU Int)} {R : List Int} (h : OpB l X R) : Mo l l.length :=
  ⟨fun p hp => by have := plen_mem' hp; have := h.p; omega, by have := h.len; omega, fun _ => by have h2 := h.op.sizes.1; have := h.r; have := h.p; omega⟩
theorem OpB.chk_ {l : List PT} {X : List (RU Int)} {R : List Int} (h : OpB l X R) : chk l (wrap64 (was l)) = 0 := by
  have h2 := h.op.sizes.1
  have := h.r
  rw [wrap_id (by omega) (by omega), h2]
  exact h.op.chk_
theorem OpB.chk2_ {la lb : List PT} {X Y : List (RU Int)} {R S : List Int} (ha : OpB la X R) (hb : OpB lb Y S) : chk2 la lb = 0 := by
  unfold chk2
  rw [if_pos ha.chk_, hb.chk_]
/-- The least form's parts are the same, whether it is laid anew or not. -/
theorem nrun_rnm {X : List (RU Int)} {R ds : List Int} {s : NS} (hx : rwas X = R.length) : nrun s (bexp (rnm ds.length X) (ds ++ R)) = nrun ⟨s.out, s.put, s.drop + (bl ds : Nat)⟩ (bexp X R) ∨ (nrun s (bexp (rnm ds.length X) (ds ++ R))).all = (nrun ⟨s.out, s.put, s.drop + (bl ds : Nat)⟩ (bexp X R)).all := by
  refine .inr ?_
  induction X generalizing R ds s with
  | nil =>
    obtain rfl : R = [] := List.length_eq_zero_iff.1 hx.symm
    have h := bexp_ds ds [] []
    rw [List.append_nil] at h
    rw [rnm, h]
    simp only [bexp, List.append_nil]
    rw [nrun_d1, nrun_nil]
  | cons x X ih =>
    cases x with
    | p r =>
      simp only [rnm, bexp]
      rw [nrun_append, nrun_bytes, ih hx, nrun_append, nrun_bytes]
    | d =>
      cases R with
      | nil => simp [rwas] at hx
      | cons q R =>
        have h := ih (R := R) (ds := ds ++ [q]) (s := s) (by simpa [rwas] using hx)
        rw [List.length_append, List.append_assoc] at h
        simp only [rnm, bexp]
        rw [nrun_append, nrun_d1]
        simp only [List.length_cons, List.length_nil, Nat.zero_add, List.cons_append, List.nil_append, bl_append, bl_cons, bl_nil] at h
        rw [h]
        congr 3
        push_cast
        omega
    | k =>
      cases R with
      | nil => simp [rwas] at hx
      | cons q R =>
        obtain ⟨n, hn⟩ := wid_succ q
        rw [rnm, bexp_ds]
        simp only [bexp]
        rw [nrun_append, nrun_d1, nrun_append, nrun_append, hn, nrun_k1]
        have h := ih (R := R) (ds := []) (s := NS.kept ⟨s.out, s.put, s.drop + (bl ds : Nat)⟩ ⟨(n : Int) + 1, 0, []⟩) (by simpa [rwas] using hx)
        simp only [List.length_nil, List.nil_append, bl_nil] at h
        rw [h]
        rw [show ((0 : Nat) : Int) = 0 from rfl, Int.add_zero]
theorem urun_rnm {X : List (RU Int)} {R : List Int} (hx : rwas X = R.length) : urun (bexp X R) = urun (bexp (rnm 0 X) R) := by
  rcases nrun_rnm (ds := []) (s := .zero) hx with h | h
  · simp only [List.length_nil, List.nil_append, bl_nil] at h
    unfold urun
    rw [h]; rfl
  · simp only [List.length_nil, List.nil_append, bl_nil] at h
    unfold urun
    rw [h]; rfl
/-- What comes of an operation that is made: nothing is wrong. -/
def KPost (X : List (RU Int)) (R : List Int) (w : World) (e : Ending) (w' : World) : Prop :=
  Below w.heap.size w w' ∧ ∃ v l, e = .returned (.tuple #[v, .nilIface]) ∧ (OpR l X R ∧ l = urun (bexp X R)) ∧ Sl w' 3 v l.length (opv l)
theorem ktrans_calls {la lb : List PT} {X Y : List (RU Int)} {R : List Int} {va vb : Value} {first : Bool} {w : World} (hg : Hdl w) (ha : Sl w 3 va la.length (opv la)) (hb : Sl w 3 vb lb.length (opv lb)) (hA : OpB la X R) (hB : OpB lb Y R) :
    Calls Tryd.prog 46 #[va, vb, .bool first] w (KPost (rnm 0 (rtr first (rnm 0 X) (rnm 0 Y))) (rap Y R) w) := by
  refine (otrans_mo hg ha hb hA.mo hB.mo).mono ?_
  rintro e w' ⟨hb, v, rfl, hs, -⟩
  have hc : trc la lb = 0 := by
    unfold trc
    rw [if_pos (hA.chk2_ hB), if_pos (by rw [hA.op.sizes.1, hB.op.sizes.1])]
  have hx := rnm_was 0 X
  have hy := rnm_was 0 Y
  have e1 : rap (rnm 0 Y) R = rap Y R := by rw [rnm_rap 0 Y R (by have := hB.op.was_; omega)]; rfl
  have hw1 := hA.op.norm_
  have hw2 := hB.op.norm_
  have e2 : tr first (expand (norm la)) (expand (norm lb)) = bexp (rtr first (rnm 0 X) (rnm 0 Y)) (rap Y R) := by
    rw [hw1.expand_, hw2.expand_, tr_bexp hw1.was_ hw2.was_, e1]
  have hm := rtr_meet (first := first) (X := rnm 0 X) (Y := rnm 0 Y) (R := R) hw1.was_ hw2.was_
  have hl : rwas (rtr first (rnm 0 X) (rnm 0 Y)) = (rap Y R).length := by rw [hm.2.1, ← e1, rap_len hw2.was_]
  have hp : AllP (rtr first (rnm 0 X) (rnm 0 Y)) := fun r hr => hw1.allP r (rtr_mem hr)
  rw [e2, hc] at hs
  refine ⟨hb, v, _, by rw [hc, errOf_zero], ⟨urun_bexp hl hp, urun_rnm hl⟩, hs rfl⟩
theorem kapply_calls {l : List PT} {X : List (RU Int)} {R : List Int} {v : Value} {w : World} (hg : Hdl w) (hs : Sl w 3 v l.length (opv l)) (hA : OpB l X R) (hR : U.AllR R) :
    Calls Tryd.prog 27 #[v, .string ⟨(U.encs R).toArray⟩] w fun e w' => e = .returned (.tuple #[.string ⟨(U.encs (rap X R)).toArray⟩, .nilIface]) ∧ Below w.heap.size w w' := by
  have hp := hA.p
  have hr := hA.r
  have hl : (U.encs R).length = bl R := rfl
  refine (oapply_calls hg hs (fun p hp' => by have := plen_mem' hp'; omega) (by omega) (by omega)).mono ?_
  rintro e w' ⟨rfl, hb⟩
  obtain ⟨h1, h2⟩ := hA.op.apply hR
  exact ⟨by rw [h1, h2, errOf_zero], hb⟩
theorem rcm_mem {X Y : List (RU Int)} {r : Int} (h : .p r ∈ rcm X Y) : .p r ∈ X ∨ .p r ∈ Y := by
  generalize hm : X.length + Y.length = m
  induction m using Nat.strongRecOn generalizing X Y with
  | _ m ih =>
    have step : ∀ (X' Y' : List (RU Int)), X'.length + Y'.length < m → .p r ∈ rcm X' Y' → .p r ∈ X' ∨ .p r ∈ Y' := fun X' Y' h1 h2 => ih _ h1 h2 rfl
    clear ih
    match X, Y with
    | .d :: X, Y => have := step X Y (by simp at hm ⊢; omega); simp_all [rcm]
    | .p s :: X, .p q :: Y => have := step (.p s :: X) Y (by simp at hm ⊢; omega); simp only [rcm, List.mem_cons, RU.p.injEq] at h this ⊢; rcases h with h | h <;> simp_all; rcases this with h | h <;> simp_all
    | .k :: X, .p s :: Y => have := step (.k :: X) Y (by simp at hm ⊢; omega); simp only [rcm, List.mem_cons, RU.p.injEq] at h this ⊢; rcases h with h | h <;> simp_all; rcases this with h | h <;> simp_all
    | [], .p s :: Y => have := step [] Y (by simp at hm ⊢; omega); simp only [rcm, List.mem_cons, RU.p.injEq] at h this ⊢; rcases h with h | h <;> simp_all
    | .p s :: X, .k :: Y => have := step X Y (by simp at hm ⊢; omega); simp only [rcm, List.mem_cons, RU.p.injEq] at h this ⊢; rcases h with h | h <;> simp_all; rcases this with h | h <;> simp_all
    | .p s :: X, .d :: Y => have := step X Y (by simp at hm ⊢; omega); simp only [rcm, List.mem_cons, RU.p.injEq] at h this ⊢; have := this h; rcases this with h | h <;> simp_all
    | .k :: X, .k :: Y => have := step X Y (by simp at hm ⊢; omega); simp_all [rcm]
    | .k :: X, .d :: Y => have := step X Y (by simp at hm ⊢; omega); simp_all [rcm]
    | .p s :: X, [] => simp [rcm] at h
    | .k :: X, [] => simp [rcm] at h
    | [], .k :: Y => simp [rcm] at h
    | [], .d :: Y => simp [rcm] at h
    | [], [] => simp [rcm] at h
theorem kcomp_calls {la lb : List PT} {X Y : List (RU Int)} {R : List Int} {va vb : Value} {w : World} (hg : Hdl w) (ha : Sl w 3 va la.length (opv la)) (hb : Sl w 3 vb lb.length (opv lb)) (hA : OpB la X R) (hB : OpB lb Y (rap X R)) :
    Calls Tryd.prog 55 #[va, vb] w (KPost (rnm 0 (rcm X Y)) R w) := by
  refine (ocomp_mo hg ha hb hA.mo hB.mo).mono ?_
  rintro e w' ⟨hb, v, rfl, hs, -⟩
  have hc : cmc la lb = 0 := by
    unfold cmc
    rw [if_pos (hA.chk2_ hB), if_pos (by rw [hA.op.sizes.2, hB.op.sizes.1])]
  have hy : rwas Y = rlen X := by rw [hB.op.was_, rap_len hA.op.was_]
  have e2 : cm (expand la) (expand lb) = bexp (rcm X Y) R := by
    rw [hA.op.expand_, hB.op.expand_, cm_bexp hA.op.was_ hy]
  have hl : rwas (rcm X Y) = R.length := by rw [(rcm_was hy).1, hA.op.was_]
  have hp : AllP (rcm X Y) := fun r hr => by
    rcases rcm_mem hr with h | h
    · exact hA.op.allP r h
    · exact hB.op.allP r h
  rw [e2, hc] at hs
  exact ⟨hb, v, _, by rw [hc, errOf_zero], ⟨urun_bexp hl hp, urun_rnm hl⟩, hs rfl⟩
theorem rinv_ps (rs : List Int) (X : List (RU Int)) (R : List Int) : rinv (rs.map .p ++ X) R = List.replicate rs.length .d ++ rinv X R := by
  induction rs with
  | nil => rfl
  | cons r rs ih => simp only [List.map_cons, List.cons_append, rinv, ih, List.length_cons, List.replicate_succ]
theorem rinv_ks (rs : List Int) (X : List (RU Int)) (R : List Int) : rinv (List.replicate rs.length .k ++ X) (rs ++ R) = List.replicate rs.length .k ++ rinv X R := by
  induction rs with
  | nil => rfl
  | cons r rs ih => simp only [List.cons_append, rinv, ih, List.length_cons, List.replicate_succ]
theorem rinv_ds (rs : List Int) (X : List (RU Int)) (R : List Int) : rinv (List.replicate rs.length .d ++ X) (rs ++ R) = rs.map .p ++ rinv X R := by
  induction rs with
  | nil => rfl
  | cons r rs ih => simp only [List.map_cons, List.cons_append, rinv, ih, List.length_cons, List.replicate_succ]
theorem rap_ps (rs : List Int) (X : List (RU Int)) (R : List Int) : rap (rs.map .p ++ X) R = rs ++ rap X R := by
  induction rs with
  | nil => rfl
  | cons r rs ih => simp only [List.map_cons, List.cons_append, rap, ih]
theorem rap_ks' (rs : List Int) (X : List (RU Int)) (R : List Int) : rap (List.replicate rs.length .k ++ X) (rs ++ R) = rs ++ rap X R := by
  induction rs with
  | nil => rfl
  | cons r rs ih => simp only [List.cons_append, rap, ih, List.length_cons, List.replicate_succ]
theorem rap_ds' (rs : List Int) (X : List (RU Int)) (R : List Int) : rap (List.replicate rs.length .d ++ X) (rs ++ R) = rap X R := by
  induction rs with
  | nil => rfl
  | cons r rs ih => simp only [List.cons_append, rap, ih, List.length_cons, List.replicate_succ]
theorem OpR.inv_ {l : List PT} {X : List (RU Int)} {R : List Int} (h : OpR l X R) (P : List Int) (hP : U.AllR (P ++ R)) : OpR (inv (U.encs (P ++ R)) (bl P) l) (rinv X R) (rap X R) := by
  induction h generalizing P with
  | nil => exact .nil
  | @put rs l X R h1 h2 _ ih =>
    have i := ih P hP
    have hx : (⟨0, 0, U.encs rs⟩ : PT).ext = 0 := rfl
    rw [inv, hx, Nat.add_zero, rinv_ps, rap_ps]
    have e : invp (U.encs (P ++ R)) (bl P) ⟨0, 0, U.encs rs⟩ = ⟨0, bl rs, []⟩ := by
      unfold invp
      rw [if_pos (encs_ne h1)]; rfl
    rw [e]
    exact .drop h1 i
  | @keep rs l X R h1 _ ih =>
    have hP2 : U.AllR ((P ++ rs) ++ R) := by rwa [List.append_assoc]
    have i := ih (P ++ rs) hP2
    rw [List.append_assoc, bl_append] at i
    have hx : (⟨(bl rs : Int), 0, []⟩ : PT).ext = bl rs := by simp [PT.ext]
    have e : invp (U.encs (P ++ (rs ++ R))) (bl P) ⟨bl rs, 0, []⟩ = ⟨bl rs, 0, []⟩ := by
      unfold invp
      rw [if_neg (by simp), if_neg (by simp)]
    rw [inv, hx, e, rinv_ks, rap_ks']
    exact .keep h1 i
  | @drop rs l X R h1 _ ih =>
    have hP2 : U.AllR ((P ++ rs) ++ R) := by rwa [List.append_assoc]
    have i := ih (P ++ rs) hP2
    rw [List.append_assoc, bl_append] at i
    have hx : (⟨0, (bl rs : Int), []⟩ : PT).ext = bl rs := by simp [PT.ext]
    have := bl_pos h1
    have e : invp (U.encs (P ++ (rs ++ R))) (bl P) ⟨0, bl rs, []⟩ = ⟨0, 0, U.encs rs⟩ := by
      unfold invp
      rw [if_neg (by simp), if_pos (by dsimp only; omega)]
      dsimp only
      rw [Int.toNat_natCast, encs_mid]
    rw [inv, hx, e, rinv_ds, rap_ds']
    exact .put h1 (fun r hr => hP r (by simp [hr])) i
theorem kinv_calls {l : List PT} {X : List (RU Int)} {R : List Int} {v : Value} {w : World} (hg : Hdl w) (hs : Sl w 3 v l.length (opv l)) (hA : OpB l X R) (hR : U.AllR R) :
    Calls Tryd.prog 29 #[v, .string ⟨(U.encs R).toArray⟩] w (KPost (rnm 0 (rinv X R)) (rap X R) w) := by
  have hp := hA.p
  have hr := hA.r
  have hl : (U.encs R).length = bl R := rfl
  refine (oinv_calls hg hs (fun p hp' => by have := plen_mem' hp'; omega) (by omega) (by omega) (by have := hA.len; omega)).mono ?_
  rintro e w' ⟨hb, v, rfl, hs, -⟩
  obtain ⟨h1, h2⟩ := hA.op.apply hR
  have hi := hA.op.inv_ [] hR
  rw [List.nil_append, bl_nil] at hi
  rw [h1, hi.expand_] at hs
  exact ⟨hb, v, _, by rw [h1, errOf_zero], ⟨urun_bexp hi.was_ hi.allP, urun_rnm hi.was_⟩, hs rfl⟩
/-- How great what is made is. -/
theorem OpR.bounds {l : List PT} {X : List (RU Int)} {R : List Int} (h : OpR l X R) : plen l ≤ bl (rap X R) ∧ bl (rap X R) ≤ bl R + plen l := by
  have h1 := plen_comes h.args
  have h2 := comes_bd h.args
  obtain ⟨h3, h4⟩ := h.sizes
  omega
theorem tr_plen {l la lb : List PT} {X Y : List (RU Int)} {R S : List Int} {first : Bool} (h : OpR l (rnm 0 (rtr first (rnm 0 X) (rnm 0 Y))) S) (ha : OpR la X R) (hb : OpR lb Y R) : plen l = plen la := by
  rw [h.plen_, ha.plen_, rws_rnm, (rtr_mask U.wid (by rw [ha.norm_.was_, hb.norm_.was_])).2, rws_rnm]
end Go.Proofs.YtgokmldngnmmhaaDoor
/- What plays does to a document in units: its loop, plain. -/
namespace Go.Proofs.YtgokmldngnmmhaaDoor
/-- What a part puts, and keeps, of the runes d that it goes over. -/
def kept (p : PT) (d : List Int) : List Int := if 0 < p.keep then d else []
/-- Where the loop of plays is: P gone through, Q ahead, T what came. -/
structure PlI (R : List Int) (u : Int) (l : List PT) (k : Nat) (P Q T : List Int) : Prop where
  k_le : k ≤ l.length
  eq : R = P ++ Q
  rest : was (l.drop k) = (cnt Q).of u
  op : ∃ O X, OpR O X P ∧ T = rap X P ∧ (tnF R u 1 Cn.zero 0 l).1 = O ++ (tnF R u 1 (cnt P) ((cnt P).of u) (l.drop k)).1 ∧ (tnF R u 1 Cn.zero 0 l).2 = (tnF R u 1 (cnt P) ((cnt P).of u) (l.drop k)).2
  siz : bl T + plen (l.drop k) ≤ bl P + plen l
theorem PlI.start {R : List Int} {u : Int} {l : List PT} (h : was l = (cnt R).of u) : PlI R u l 0 [] R [] :=
  ⟨Nat.zero_le _, rfl, h, ⟨[], [], .nil, rfl, by rw [cnt_nil, of_zero]; rfl, by rw [cnt_nil, of_zero]; rfl⟩, by simp⟩
theorem rap_snoc {α : Type} {X Y : List (RU α)} {R S : List α} (h : rwas X = R.length) : rap (X ++ Y) (R ++ S) = rap X R ++ rap Y S := by
  induction X generalizing R with
  | nil => obtain rfl := List.length_eq_zero_iff.1 h.symm; simp [rap]
  | cons x X ih =>
    cases x with
    | p r => simp only [List.cons_append, rap, ih (R := R) h]
    | k => cases R with
      | nil => simp [rwas] at h
      | cons r R => simp only [List.cons_append, rap, ih (R := R) (by simpa [rwas] using h)]
    | d => cases R with
      | nil => simp [rwas] at h
      | cons r R => simp only [List.cons_append, rap, ih (R := R) (by simpa [rwas] using h)]
/-- The place behind a part is none: it ends there. -/
theorem PlI.stop {R : List Int} {u : Int} {l : List PT} {k : Nat} {P Q T : List Int} (h : PlI R u l k P Q T) (hu : 1 ≤ u ∧ u ≤ 3) (hg : ∀ p ∈ l, p.Good) (hk : k < l.length) (hno : ∀ d q, Q = d ++ q → (cnt d).of u ≠ l[k].keep + l[k].drop) : (tnF R u 1 Cn.zero 0 l).2 = 10 := by
  obtain ⟨O, X, -, -, -, e⟩ := h.op
  have hn := (hg _ (List.getElem_mem hk)).1.2
  obtain ⟨c, e', hA⟩ := ahead_ex u ((cnt P).of u + (l[k].keep + l[k].drop)) R
  have hr := h.rest
  have hin : ¬ ((cnt P).of u + (l[k].keep + l[k].drop) < 0 ∨ (cnt R).of u < (cnt P).of u + (l[k].keep + l[k].drop)) := by
    have h1 := of_nn P u
    have h2 : 0 ≤ was (l.drop (k + 1)) := was_nn fun p hp => (hg p (List.mem_of_mem_drop hp)).1
    rw [tn_drop hk, was] at hr
    rw [h.eq, cnt_app_of]
    omega
  have h10 : e' = 10 := by
    rcases hA.2.2 (by omega) hin with ⟨-, hp⟩ | ⟨e2, -⟩
    · rw [h.eq] at hp
      obtain ⟨d, q, rfl, -, hd⟩ := pl_behind rfl (by omega) hu hp
      exact absurd hd (hno d q rfl)
    · exact erV_inj (b := 10) e2
  subst h10
  rw [e, tn_drop hk, tnF_stop hA (by decide)]
/-- One part further. -/
theorem PlI.step {R : List Int} {u : Int} {l : List PT} {k : Nat} {P d q T : List Int} (h : PlI R u l k P (d ++ q) T) (hu : 1 ≤ u ∧ u ≤ 3) (hg : ∀ p ∈ l, p.Good) (hk : k < l.length) (hd : (cnt d).of u = l[k].keep + l[k].drop) {rs : List Int} (hrs : l[k].put = U.encs rs) (hal : U.AllR rs) :
    PlI R u l (k + 1) (P ++ d) q (T ++ (kept l[k] d ++ rs)) := by
  obtain ⟨O, X, ho, ht, e1, e2⟩ := h.op
  have hgk := hg _ (List.getElem_mem hk)
  have hn := hgk.1.2
  have hA : AheadR u ((cnt P).of u + (l[k].keep + l[k].drop)) R (cnt (P ++ d)) (erV 0) := Pl.ahead hu ⟨P ++ d, q, by rw [h.eq, List.append_assoc], by rw [cnt_app_of, hd], rfl⟩
  have e3 : (cnt P).of u + (l[k].keep + l[k].drop) = (cnt (P ++ d)).of u := by rw [cnt_app_of, hd]
  have hr := h.rest
  rw [tn_drop hk, was, cnt_app_of] at hr
  rw [tn_drop hk, tnF_step hA, e3] at e1 e2
  have hs := h.siz
  rw [tn_drop hk, plen, hrs] at hs
  have hbr : (U.encs rs).length = bl rs := rfl
  have e4 : (cnt (P ++ d)).of 1 - (cnt P).of 1 = bl d := by rw [cnt_app_of, of_one_bl d]; omega
  rw [e4] at e1
  have hd0 : l[k].keep + l[k].drop = 0 → d = [] := fun e => by
    have := of_len d hu
    exact List.length_eq_zero_iff.1 (by omega)
  have hd1 : 0 < l[k].keep + l[k].drop → d ≠ [] := fun e e' => by
    subst e'
    rw [cnt_nil, of_zero] at hd
    omega
  refine ⟨by omega, by rw [h.eq, List.append_assoc], by omega, ?_, ?_⟩
  · generalize l[k] = p at *
    rcases hgk.1.cases with ⟨b, hb, rfl⟩ | ⟨n, hn', rfl⟩ | ⟨n, hn', rfl⟩
    · dsimp only at hrs hd0 hd1
      subst hrs
      obtain rfl := hd0 rfl
      have hne : rs ≠ [] := by rintro rfl; exact hb rfl
      have hx := OpR.put hne hal OpR.nil
      refine ⟨O ++ [⟨0, 0, U.encs rs⟩], X ++ (rs.map .p ++ []), by have := ho.append hx; rwa [List.append_nil] at this ⊢, ?_, ?_, e2⟩
      · have e5 := rap_snoc (X := X) (Y := rs.map .p ++ []) (R := P) (S := []) ho.was_
        have e6 := rap_ps rs [] []
        rw [e5, e6, ← ht]
        simp [kept, rap]
      · rw [e1, tnP_put]; simp
    · dsimp only at hrs hd0 hd1
      have hrs0 : rs = [] := by
        by_cases e : rs = []
        · exact e
        · exact absurd hrs.symm (encs_ne e)
      subst hrs0
      have hne := hd1 (by omega)
      have hx := OpR.drop hne OpR.nil
      refine ⟨O ++ [⟨0, (bl d : Nat), []⟩], X ++ (List.replicate d.length .d ++ []), by have := ho.append hx; rwa [List.append_nil d] at this, ?_, ?_, e2⟩
      · rw [rap_snoc ho.was_, ← ht]
        have := rap_ds' d [] []
        rw [List.append_nil d] at this
        rw [this]
        simp [kept, rap]
      · rw [e1, tnP_drop hn']; simp
    · dsimp only at hrs hd0 hd1
      have hrs0 : rs = [] := by
        by_cases e : rs = []
        · exact e
        · exact absurd hrs.symm (encs_ne e)
      subst hrs0
      have hne := hd1 (by omega)
      have hx := OpR.keep hne OpR.nil
      refine ⟨O ++ [⟨(bl d : Nat), 0, []⟩], X ++ (List.replicate d.length .k ++ []), by have := ho.append hx; rwa [List.append_nil d] at this, ?_, ?_, e2⟩
      · rw [rap_snoc ho.was_, ← ht]
        have := rap_ks' d [] []
        rw [List.append_nil d] at this
        rw [this]
        unfold kept
        rw [if_pos (by dsimp only; omega)]
        simp [rap]
      · rw [e1, tnP_keep hn']; simp
  · rw [bl_append, bl_append, bl_append]
    have hkd : bl (kept l[k] d) ≤ bl d := by unfold kept; split <;> simp
    omega
/-- All of it was done. -/
theorem PlI.finish {R : List Int} {u : Int} {l : List PT} {k : Nat} {P Q T : List Int} (h : PlI R u l k P Q T) (hu : 1 ≤ u ∧ u ≤ 3) (hk : k = l.length) : (tnF R u 1 Cn.zero 0 l).2 = 0 ∧ ∃ X, OpR (tnF R u 1 Cn.zero 0 l).1 X R ∧ T = rap X R := by
  obtain ⟨O, X, ho, ht, e1, e2⟩ := h.op
  have hr := h.rest
  rw [hk, List.drop_length] at e1 e2 hr
  rw [tnF] at e1 e2
  rw [was] at hr
  have hq : Q = [] := by
    have := of_len Q hu
    exact List.length_eq_zero_iff.1 (by omega)
  subst hq
  have he := h.eq
  rw [List.append_nil] at he e1
  subst he
  exact ⟨e2, X, by rw [e1]; exact ho, ht⟩
end Go.Proofs.YtgokmldngnmmhaaDoor
/- Turned into bytes and back: the operation itself. Plain. -/
namespace Go.Proofs.YtgokmldngnmmhaaDoor
theorem tnF_back {R P Q : List Int} {u : Int} {l : List PT} (hu : 1 ≤ u ∧ u ≤ 3) (hR : R = P ++ Q) (hg : ∀ p ∈ l, p.Good) (hw : was l = (cnt Q).of u) (hk : (tnF R u 1 (cnt P) ((cnt P).of u) l).2 = 0) :
    tnF R 1 u (cnt P) ((cnt P).of 1) (tnF R u 1 (cnt P) ((cnt P).of u) l).1 = (l, 0) := by
  induction l generalizing P Q with
  | nil => rfl
  | cons p l ih =>
    obtain ⟨c, k, hA⟩ := ahead_ex u ((cnt P).of u + (p.keep + p.drop)) R
    have hgp := hg p (by simp)
    have hgl : ∀ q ∈ l, q.Good := fun q hq => hg q (by simp [hq])
    by_cases h0 : k = 0
    · subst h0
      rw [tnF_step hA] at hk ⊢
      have hpl := hA.nil
      rw [hR] at hpl
      have hnn := hgp.1.2
      obtain ⟨d, q, rfl, rfl, hd⟩ := pl_behind rfl (by omega) hu hpl
      have e1 : (cnt P).of u + (p.keep + p.drop) = (cnt (P ++ d)).of u := by rw [cnt_app_of, hd]
      rw [was, cnt_app_of, hd] at hw
      rw [e1] at hk ⊢
      dsimp only at hk ⊢
      have hi := ih (P := P ++ d) (Q := q) (by rw [hR, List.append_assoc]) hgl (by omega) hk
      have e2 : (cnt (P ++ d)).of 1 - (cnt P).of 1 = bl d := by rw [cnt_app_of, of_one_bl d]; omega
      have e3 : (cnt (P ++ d)).of u - (cnt P).of u = p.keep + p.drop := by rw [cnt_app_of, hd]; omega
      rw [e2]
      have key : ∀ p' : PT, p'.keep + p'.drop = (bl d : Int) → tnP p' (p.keep + p.drop) = p → tnF R 1 u (cnt P) ((cnt P).of 1) (p' :: (tnF R u 1 (cnt (P ++ d)) ((cnt (P ++ d)).of u) l).1) = (p :: l, 0) := by
        intro p' hp' ht
        have e4 : (cnt P).of 1 + (p'.keep + p'.drop) = (cnt (P ++ d)).of 1 := by rw [cnt_app_of, of_one_bl d, hp']
        have hB : AheadR 1 ((cnt P).of 1 + (p'.keep + p'.drop)) R (cnt (P ++ d)) (erV 0) := Pl.ahead (by decide) ⟨P ++ d, q, by rw [hR, List.append_assoc], e4.symm, rfl⟩
        rw [tnF_step hB, e4, e3, hi, ht]
      rcases hgp.1.cases with ⟨b, hb, rfl⟩ | ⟨n, hn, rfl⟩ | ⟨n, hn, rfl⟩
      · have hd0 : d = [] := by
          have := of_len d hu
          dsimp only at hd
          exact List.length_eq_zero_iff.1 (by omega)
        subst hd0
        rw [tnP_put]
        exact key _ rfl (tnP_put _ _)
      · have hd0 : 0 < bl d := bl_pos (by
          rintro rfl
          rw [cnt_nil, of_zero] at hd
          dsimp only at hd
          omega)
        rw [tnP_drop hn]
        refine key _ (by simp) ?_
        dsimp only
        rw [tnP_drop hd0]
        simp
      · have hd0 : 0 < bl d := bl_pos (by
          rintro rfl
          rw [cnt_nil, of_zero] at hd
          dsimp only at hd
          omega)
        rw [tnP_keep hn]
        refine key _ (by simp) ?_
        dsimp only
        rw [tnP_keep hd0]
        simp
    · rw [tnF_stop hA h0] at hk
      exact absurd hk h0
/-- What comes back of a turn into bytes. -/
theorem tnR_back {R : List Int} {l o l' : List PT} {u k' : Int} (hu : 1 ≤ u ∧ u ≤ 3) (h : TnR R l u 1 o 0) (h' : TnR R o 1 u l' k') : l' = l ∧ k' = 0 := by
  obtain ⟨⟨X, hX⟩, -, -, hg, hw⟩ := tnR_opr hu h
  have hc : chk l ((cnt R).of u) = 0 := chk_of hg hw
  obtain ⟨e1, e2⟩ := h.2.2 ⟨hu, by decide⟩ hc
  rw [if_pos rfl] at e2
  have hc' : chk o ((cnt R).of 1) = 0 := by rw [of_one_bl]; exact hX.chk_
  obtain ⟨f1, f2⟩ := h'.2.2 ⟨by decide, hu⟩ hc'
  have z : ((cnt ([] : List Int)).of u) = 0 := by rw [cnt_nil, of_zero]
  have z1 : ((cnt ([] : List Int)).of 1) = 0 := by rw [cnt_nil, of_zero]
  have hb := tnF_back (R := R) (P := []) (Q := R) hu rfl hg hw (by rw [z, cnt_nil]; exact e1.symm)
  rw [z, z1, cnt_nil, ← e2] at hb
  rw [hb] at f1 f2
  dsimp only at f1 f2
  subst f1
  rw [if_pos rfl] at f2
  exact ⟨f2, rfl⟩
end Go.Proofs.YtgokmldngnmmhaaDoor
/- Small laws for RopePlays. -/
namespace Go.Proofs.YtgokmldngnmmhaaDoor
open Go.RowKit
set_option maxRecDepth 100000
theorem errV_erV (w : World) (k : Int) : ErrV w (erV k) k (-1) := by
  unfold erV
  split
  · rename_i h; subst h; exact .nil
  · exact .no k
theorem flat_le {cs : List (List Int)} (h : ∀ c ∈ cs, bl c ≤ 32) : cb cs ≤ 32 * cs.length := by
  induction cs with
  | nil => simp
  | cons c cs ih =>
    have h1 := h c (by simp)
    have h2 := ih fun x hx => h x (List.mem_cons_of_mem _ hx)
    rw [cb_cons, List.length_cons]; omega
theorem Good.many {t : RT} (h : Good t) : t.nodes.length ≤ bl t.runes ∧ bl t.runes ≤ 32 * t.nodes.length := by
  have h1 := ne_len h.ne
  have h2 := flat_le h.le
  have h3 := bl_len t.runes
  rw [cb_runes, RT.len_chunks] at h2
  rw [RT.len_chunks, ← RT.runes_chunks] at h1
  exact ⟨by omega, h2⟩
/-- The rope and all that its loop keeps. -/
structure RpI (w wr : World) (p : Nat) (t : RT) : Prop where
  at_ : AtR wr p t
  good : Good t
  below : Below w.heap.size w wr
  hp : w.heap.size ≤ p
  hb : ∀ i ∈ t.blocks, w.heap.size ≤ i
theorem RpI.then_below {w wr w2 : World} {p : Nat} {t : RT} (h : RpI w wr p t) (hb : Below wr.heap.size wr w2) : RpI w w2 p t :=
  ⟨h.at_.below hb, h.good, bstep h.below hb, h.hp, h.hb⟩
theorem RpI.splice {w w3 w5 : World} {p : Nat} {t t5 : RT} {R' : List Int} (h : RpI w w3 p t) (hs : SplW w3 w5 p t t5 R') : RpI w w5 p t5 :=
  ⟨hs.at_, hs.good, h.below.trans (hs.only.below h.below.size (fun k hk e => by
    rcases e with rfl | e
    · have := h.hp; omega
    · have := h.hb k e; omega)), h.hp, fun i hi => by
    rcases hs.sub i hi with e | e
    · exact h.hb i e
    · have := h.below.size; omega⟩
theorem blk_split {w3 w5 : World} {g p : Nat} {t t5 : RT} {R' : List Int} {ty : TypeId} {cs : Array Value} (hz : Blk w3 g ty cs) (hs : SplW w3 w5 p t t5 R') (hp : p ≠ g ∧ g ∉ t.blocks) : Blk w5 g ty cs := by
  refine hz.only hs.only (fun e => ?_)
  rcases e with e | e
  · exact hp.1 e.symm
  · exact hp.2 e
theorem flt_cells {w : World} {g : Nat} {x y : Value} (h : Blk w g 25 #[x, y]) : w.cell? ⟨g, 0, none⟩ = some x ∧ w.cell? ⟨g, 1, none⟩ = some y := by
  have z0 := h.cell 0
  have z1 := h.cell 1
  simp only [List.getElem?_toArray, List.getElem?_cons_zero, List.getElem?_cons_succ] at z0 z1
  exact ⟨z0, z1⟩
end Go.Proofs.YtgokmldngnmmhaaDoor
/- Both ways make the same: plain. -/
namespace Go.Proofs.YtgokmldngnmmhaaDoor
open Go.RowKit
set_option maxRecDepth 100000
theorem encs_inj {R S : List Int} (hR : U.AllR R) (hS : U.AllR S) (h : U.encs R = U.encs S) : R = S := by
  have h1 := U.sp_encs hR
  have h2 := U.sp_encs hS
  rw [h] at h1
  exact (h1.unique h2).1
theorem OpR.rap_norm {l : List PT} {X : List (RU Int)} {R : List Int} (h : OpR l X R) : rap (rnm 0 X) R = rap X R := by
  rw [rnm_rap 0 X R (by have := h.was_; omega)]; rfl
/-- Both ways make the same. -/
theorem meet_eq {la lb : List PT} {X Y : List (RU Int)} {R : List Int} {first : Bool} (ha : OpR la X R) (hb : OpR lb Y R) :
    rap (rnm 0 (rtr (!first) (rnm 0 Y) (rnm 0 X))) (rap X R) = rap (rnm 0 (rtr first (rnm 0 X) (rnm 0 Y))) (rap Y R) := by
  have h1 := ha.norm_
  have h2 := hb.norm_
  obtain ⟨m1, m2, m3⟩ := rtr_meet (first := first) (X := rnm 0 X) (Y := rnm 0 Y) (R := R) h1.was_ h2.was_
  rw [ha.rap_norm, hb.rap_norm] at m1
  have l1 := rap_len ha.was_
  have l2 := rap_len hb.was_
  have w1 := (rnm_was 0 X).2
  have w2 := (rnm_was 0 Y).2
  rw [rnm_rap 0 _ _ (by omega), rnm_rap 0 _ _ (by omega)]
  exact m1.symm
end Go.Proofs.YtgokmldngnmmhaaDoor
