/- Splice. -/
import Derived.Test.YtgokmldngnmmhaaDoorMShapePlays32
import Derived.Test.YtgokmldngnmmhaaDoorMShapePlays13
import Derived.Deep.DeepCutAuto
namespace Go.Proofs.YtgokmldngnmmhaaDoor
open Go.RowKit
set_option maxRecDepth 100000
/-- A prefix by bytes is one alone. -/
theorem bl_unique {p q p' q' : List Int} (h : p ++ q = p' ++ q') (e : bl p = bl p') : p = p' ∧ q = q' := by
  have h1 := cnt_b p
  have h2 := cnt_b p'
  exact pre_unique (u := 1) ⟨by omega, by omega⟩ h (by show (cnt p).b = (cnt p').b; omega)
theorem bl_pre {p q p' q' : List Int} (h : p ++ q = p' ++ q') (e : bl p ≤ bl p') : ∃ d, p' = p ++ d ∧ q = d ++ q' := by
  rcases pre_le h with h1 | ⟨d, rfl, h2⟩
  · exact h1
  · have : bl d = 0 := by simp at e; omega
    have hd : d = [] := Classical.byContradiction fun hh => by have := bl_pos hh; omega
    subst hd
    exact ⟨[], by simp, by simpa using h2.symm⟩
/-- Where the new text goes, and what of the chunk ahead is kept. -/
structure Head (t : RT) (P R : List Int) (A B : List (List Int)) (h : List Int) : Prop where
  ch : t.chunks = A ++ B
  pre : P = A.flatten ++ h
  post : B.flatten = h ++ R
theorem head_of {t : RT} {P R : List Int} (hg : Good t) (hr : t.runes = P ++ R) : ∃ c k A B h, t.findT (bl P) 0 = (c, k) ∧ Head t P R A B h ∧ bl c ≤ 32 ∧
    ((k < bl P ∧ c ≠ [] ∧ cb A = k ∧ bl P = k + bl h ∧ bl h ≤ bl c ∧ (U.encs c).take (bl h) = U.encs h) ∨ (¬ k < bl P ∧ cb A = bl P ∧ h = [])) := by
  by_cases hn : t = .nil
  · subst hn
    obtain ⟨rfl, rfl⟩ := List.append_eq_nil_iff.1 hr.symm
    exact ⟨[], 0, [], [], [], rfl, ⟨rfl, rfl, rfl⟩, by simp, .inr ⟨by simp, rfl, rfl⟩⟩
  · obtain ⟨a, c, b, h1, h2, h3, h4⟩ := RT.findT_chunks (k := bl P) (f := 0) hg.ne hn (Nat.zero_le _)
    rw [Nat.zero_add] at h2 h3 h4
    have hf : a.flatten ++ (c ++ b.flatten) = P ++ R := by rw [← hr, RT.runes_chunks, h1]; simp
    obtain ⟨h, e1, e2⟩ := bl_pre hf h3
    have hb : bl P = cb a + bl h := by rw [e1, bl_append]; rfl
    refine ⟨c, cb a, a, c :: b, h, h2, ⟨h1, e1, by simpa using e2⟩, hg.le c (by rw [h1]; simp), ?_⟩
    by_cases hk : cb a < bl P
    · have hc : c ≠ [] := hg.ne c (by rw [h1]; simp)
      have hl : bl h ≤ bl c := by
        rcases h4 with h4 | rfl
        · omega
        · simp at e2; rw [e2]; simp
      obtain ⟨d, rfl, -⟩ := bl_pre e2.symm hl
      refine .inl ⟨hk, hc, rfl, hb, hl, ?_⟩
      rw [U.encs_append]
      exact List.take_left
    · refine .inr ⟨hk, by omega, ?_⟩
      exact Classical.byContradiction fun hh => by have := bl_pos hh; omega
theorem find_at {t : RT} {A B : List (List Int)} {c : List Int} (hne : Ne t.chunks) (h : t.chunks = A ++ c :: B) : t.findT (cb A) 0 = (c, cb A) := by
  obtain ⟨a, c', b, h1, h2, h3, h4⟩ := RT.findT_chunks (k := cb A) (f := 0) hne (by rintro rfl; simp at h) (Nat.zero_le _)
  rw [Nat.zero_add] at h2 h3 h4
  rw [h] at hne
  rcases split3 (h.symm.trans h1) with ⟨d, e1, e2⟩ | ⟨d, e1, e2⟩
  · cases d with
    | nil =>
      simp at e1 e2
      rw [h2, e1, e2.1]
    | cons y d =>
      simp only [List.cons_append, List.cons.injEq] at e2
      obtain ⟨rfl, rfl⟩ := e2
      rw [e1, cb_append, cb_cons] at h4
      rcases h4 with h4 | h4
      · omega
      · simp at h4
  · have := bl_pos hne.r.hd
    rw [e1, cb_append, cb_cons] at h3
    omega
theorem find_end {t : RT} (hne : Ne t.chunks) : ∃ c k, t.findT (cb t.chunks) 0 = (c, k) ∧ bl c ≤ bl t.runes ∧ (c = [] ∨ k < cb t.chunks) := by
  by_cases hn : t = .nil
  · subst hn; exact ⟨[], 0, rfl, by simp, .inl rfl⟩
  · obtain ⟨a, c, b, h1, h2, h3, h4⟩ := RT.findT_chunks (k := cb t.chunks) (f := 0) hne hn (Nat.zero_le _)
    rw [Nat.zero_add] at h2
    refine ⟨c, cb a, h2, ?_, .inr ?_⟩
    · rw [← cb_runes, h1, cb_append, cb_cons]; omega
    · have := bl_pos (hne c (by rw [h1]; simp))
      rw [h1, cb_append, cb_cons]; omega
theorem Lay.trans {a b c : World} {p : Nat} {t t' t2 : RT} (h : Lay a b p t t') (k : Lay b c p t' t2) : Lay a c p t t2 := by
  refine ⟨k.at_, k.nodup, fun i hi => ?_, h.only.step k.only ?_, fun hb => k.bal (h.bal hb)⟩
  · rcases k.sub i hi with e | e
    · exact h.sub i e
    · exact .inr (Nat.le_trans h.only.size e)
  · rintro i hi (rfl | e)
    · exact .inl rfl
    · rcases h.sub i e with e | e
      · exact .inr e
      · omega
theorem Lay.start {w w' : World} {p : Nat} {t : RT} (h : AtR w p t) (hn : t.blocks.Nodup) (hb : Below w.heap.size w w') : Lay w w' p t t := ⟨h.below hb, hn, fun _ h => .inl h, Only.of_below hb, id⟩
theorem Lay.then_below {w w' w2 : World} {p : Nat} {t t' : RT} (h : Lay w w' p t t') (hb : Below w'.heap.size w' w2) : Lay w w2 p t t' := ⟨h.at_.below hb, h.nodup, h.sub, h.only.then_below hb, h.bal⟩
/-- One chunk less. -/
theorem Lay.take {w wr w3 : World} {p k : Nat} {t t' : RT} (h : Lay w wr p t t') (ht : AtT w3 (t'.takeT k)) (ho : Only (fun b => b ∈ t'.blocks) wr w3) : Lay w (w3.setCell ⟨p, 0, none⟩ (t'.takeT k).ptr) p t (t'.takeT k) := by
  have hsub := RT.takeT_sub t' k
  have hout : p ∉ (t'.takeT k).blocks := fun e => h.at_.out (hsub.subset e)
  refine ⟨⟨(h.at_.blk.only ho h.at_.out).set_ 0 _, ht.only ((Only.refl (fun i => i = p) w3).setCell (p := ⟨p, 0, none⟩) (.inl rfl) _) (fun i hi e => hout (e ▸ hi)), hout⟩, h.nodup.sublist hsub, fun i hi => h.sub i (hsub.subset hi), ?_, fun hb => (RT.takeT_bal (h.bal hb) k).1⟩
  refine only_set (h.only.step ho ?_) (.inl rfl)
  intro i hi e
  rcases h.sub i e with e | e
  · exact .inr e
  · omega
/-- What is left to drop, the chunks from there on, what is kept of the last one. -/
def SplI (Q : List Int) (B : List (List Int)) (T : List Int) (l : Int) : Prop :=
  l ≤ 8000 ∧ ((∃ X, 0 < bl X ∧ T = [] ∧ l = bl X ∧ B.flatten = X ++ Q) ∨ (l ≤ 0 ∧ -32 ≤ l ∧ T ++ B.flatten = Q))
theorem SplI.ne {Q : List Int} {B : List (List Int)} {T : List Int} {l : Int} (h : SplI Q B T l) (hl : 0 < l) : ∃ c B2, B = c :: B2 := by
  rcases h.2 with ⟨X, h1, -, -, h2⟩ | ⟨h1, -⟩
  · cases B with
    | nil => simp at h2; rw [h2.1] at h1; simp at h1
    | cons c B => exact ⟨c, B, rfl⟩
  · omega
theorem SplI.step {Q : List Int} {B : List (List Int)} {T c : List Int} {x : Nat} (h : SplI Q (c :: B) T (x : Int)) (hl : 0 < x) (hc : bl c ≤ 32) :
    T = [] ∧ ((x < bl c ∧ ∃ d, (U.encs c).drop x = U.encs d ∧ bl d ≤ 32 ∧ SplI Q B d ((x : Int) - bl c)) ∨ (bl c ≤ x ∧ SplI Q B [] ((x : Int) - bl c))) := by
  obtain ⟨hx, ⟨X, h1, h2, h3, h4⟩ | ⟨h1, -⟩⟩ := h
  · refine ⟨h2, ?_⟩
    have h5 : x = bl X := by omega
    rw [List.flatten_cons] at h4
    by_cases hlt : x < bl c
    · left
      obtain ⟨d, rfl, e⟩ := bl_pre h4.symm (by omega)
      refine ⟨hlt, d, ?_, by simp at hc; omega, by simp; omega, .inr ⟨by simp; omega, by omega, e.symm⟩⟩
      rw [U.encs_append, h5]
      exact List.drop_left
    · right
      obtain ⟨d, rfl, e⟩ := bl_pre h4 (by omega)
      simp only [bl_append] at h5
      refine ⟨by omega, by omega, ?_⟩
      by_cases hd : d = []
      · subst hd
        right
        simp at h5
        exact ⟨by omega, by omega, by simpa using e⟩
      · exact .inl ⟨d, bl_pos hd, rfl, by omega, e⟩
  · omega
theorem SplI.done {Q : List Int} {B : List (List Int)} {T : List Int} {l : Int} (h : SplI Q B T l) (hl : ¬ 0 < l) : T ++ B.flatten = Q := by
  rcases h.2 with ⟨X, h1, -, h2, -⟩ | ⟨-, -, h⟩
  · omega
  · exact h
theorem SplI.start {Q hd D : List Int} {B : List (List Int)} (e : B.flatten = hd ++ (D ++ Q)) (h8 : bl hd + bl D ≤ 8000) : SplI Q B [] ((bl hd + bl D : Nat) : Int) := by
  refine ⟨by omega, ?_⟩
  by_cases hx : bl (hd ++ D) = 0
  · have h0 : hd ++ D = [] := Classical.byContradiction fun hh => by have := bl_pos hh; omega
    obtain ⟨rfl, rfl⟩ := List.append_eq_nil_iff.1 h0
    exact .inr ⟨by simp, by simp, by simpa using e⟩
  · exact .inl ⟨hd ++ D, by omega, rfl, by rw [bl_append], by rw [e]; simp⟩
theorem ap_of {t : RT} (hn : t.blocks.Nodup) (ne : Ne t.chunks) (hs : bl t.runes ≤ 1000000) : Ap t := by
  have h1 := bl_len t.runes
  have h3 := ne_len ne
  rw [RT.len_chunks, ← RT.runes_chunks] at h3
  exact ⟨hn, ⟨by omega, by omega⟩⟩
/-- The tree within Splice's loop. -/
structure SplT (w wr : World) (p k : Nat) (t t' : RT) (A B B' : List (List Int)) : Prop where
  ch : t'.chunks = A ++ B'
  ka : cb A = k
  lay : Lay w wr p t t'
  ne : Ne t'.chunks
  le : ∀ c ∈ t'.chunks, bl c ≤ 32
  sz : bl t'.runes ≤ 8000
theorem SplT.take {w wr w3 : World} {p k : Nat} {t t' : RT} {A B B2 : List (List Int)} {c : List Int} (h : SplT w wr p k t t' A B (c :: B2)) (ht : AtT w3 (t'.takeT k)) (ho : Only (fun b => b ∈ t'.blocks) wr w3) :
    SplT w (w3.setCell ⟨p, 0, none⟩ (t'.takeT k).ptr) p k t (t'.takeT k) A B B2 := by
  have hc := RT.takeT_chunks h.ne h.ch h.ka
  have hsub : ∀ x ∈ A ++ B2, x ∈ t'.chunks := fun x hx => by
    rw [h.ch]
    rcases List.mem_append.1 hx with e | e
    · exact List.mem_append_left _ e
    · exact List.mem_append_right _ (List.mem_cons_of_mem _ e)
  refine ⟨hc, h.ka, h.lay.take ht ho, fun x hx => h.ne x (hsub x (hc ▸ hx)), fun x hx => h.le x (hsub x (hc ▸ hx)), ?_⟩
  have := h.sz
  rw [← cb_runes, h.ch, cb_append, cb_cons] at this
  rw [← cb_runes, hc, cb_append]
  omega
theorem SplT.find {w wr : World} {p k : Nat} {t t' : RT} {A B B2 : List (List Int)} {c : List Int} (h : SplT w wr p k t t' A B (c :: B2)) :
    Calls Tryd.prog 101 #[.pointer (some ⟨p, 0, none⟩), .int .i64 k] wr fun e w' => e = .returned (.tuple #[.string ⟨(U.encs c).toArray⟩, .int .i64 k]) ∧ Below wr.heap.size wr w' := by
  have hk : k ≤ 8000 := by have := h.sz; rw [← cb_runes, h.ch, cb_append, h.ka] at this; omega
  have := find_calls (k := k) h.lay.at_ (by have := h.sz; omega) (by omega)
  have e := find_at h.ne h.ch
  rw [h.ka] at e
  rw [e] at this
  exact this
theorem SplT.takes {w wr w2 : World} {p k : Nat} {t t' : RT} {A B B2 : List (List Int)} {c : List Int} (h : SplT w wr p k t t' A B (c :: B2)) (hb : Below wr.heap.size wr w2) :
    Calls Tryd.prog 102 #[t'.ptr, .int .i64 k] w2 fun e w' => e = .returned (t'.takeT k).ptr ∧ AtT w' (t'.takeT k) ∧ Only (fun b => b ∈ t'.blocks) w2 w' :=
  take_calls (h.lay.at_.tree.below hb) h.ne (ap_of h.lay.nodup h.ne (by have := h.sz; omega)) ⟨A, c, B2, h.ch, h.ka⟩
theorem SplT.then_below {w wr w2 : World} {p k : Nat} {t t' : RT} {A B B' : List (List Int)} (h : SplT w wr p k t t' A B B') (hb : Below wr.heap.size wr w2) : SplT w w2 p k t t' A B B' :=
  ⟨h.ch, h.ka, h.lay.then_below hb, h.ne, h.le, h.sz⟩
theorem SplT.lays {w wr : World} {p k : Nat} {t t' : RT} {A B B' : List (List Int)} {P Q D h prs T : List Int} {bs : ByteArray} (hT : SplT w wr p k t t' A B B') (hbs : bs = ⟨(U.encs (h ++ prs ++ T)).toArray⟩)
    (hP : P = A.flatten ++ h) (hQ : T ++ B'.flatten = Q) (hr : t.runes = P ++ D ++ Q) (hg : Good t) (hp : U.AllR prs) (hs : bl P + bl prs + bl Q ≤ 8000) :
    Calls Tryd.prog 99 #[.pointer (some ⟨p, 0, none⟩), .int .i64 k, .string bs] wr fun e w' => e = .returned (.tuple #[]) ∧ ∃ t2, t2.runes = P ++ prs ++ Q ∧ Good t2 ∧ Lay w w' p t t2 := by
  subst hbs
  have hall : U.AllR (P ++ prs ++ Q) := fun x hx => by
    have := hg.all x
    rw [hr] at this
    simp only [List.mem_append] at hx this
    rcases hx with (hx | hx) | hx
    · exact this (.inl (.inl hx))
    · exact hp x hx
    · exact this (.inr hx)
  have hbP : bl P = cb A + bl h := by rw [hP, bl_append]; rfl
  have hbQ : bl Q = bl T + cb B' := by rw [← hQ, bl_append]; rfl
  have htr : bl t'.runes = cb A + cb B' := by rw [← cb_runes, hT.ch, cb_append]
  refine (lay_calls (k := k) (t := t') (rs := h ++ prs ++ T) (a := A) (b := B') hT.lay.at_ hT.lay.nodup hT.ne hT.ch hT.ka (fun x hx => hall x ?_) (by rw [htr, bl_append, bl_append]; omega)).mono ?_
  · rw [hP, ← hQ]
    simp only [List.mem_append] at hx ⊢
    rcases hx with (hx | hx) | hx
    · exact .inl (.inl (.inr hx))
    · exact .inl (.inr hx)
    · exact .inr (.inl hx)
  · rintro e w' ⟨rfl, t2, hch, hL⟩
    have hrr : t2.runes = P ++ prs ++ Q := by rw [RT.runes_chunks, hch, hP, ← hQ]; simp [cutR_flatten]
    refine ⟨rfl, t2, hrr, ?_, hT.lay.trans hL⟩
    have hmem : ∀ x ∈ t2.chunks, x ∈ t'.chunks ∨ x ∈ cutR (h ++ prs ++ T) := fun x hx => by
      rw [hch] at hx
      rw [hT.ch]
      simp only [List.mem_append] at hx ⊢
      rcases hx with (hx | hx) | hx
      · exact .inl (.inl hx)
      · exact .inr hx
      · exact .inl (.inr hx)
    refine ⟨hL.nodup, fun x hx => ?_, fun x hx => ?_, by rw [hrr]; exact hall, hL.bal (hT.lay.bal hg.bal), by rw [hrr, bl_append, bl_append]; exact hs⟩
    · rcases hmem x hx with e | e
      · exact hT.ne x e
      · exact cutR_ne _ x e
    · rcases hmem x hx with e | e
      · exact hT.le x e
      · exact (cutR_mem e).2
attribute [local go_sem] field_cn
set_option maxHeartbeats 8000000 in
theorem splice_ok {p : Nat} {t : RT} {w : World} {P D Q prs : List Int} (h : AtR w p t) (hg : Good t) (hr : t.runes = P ++ D ++ Q) (hp : U.AllR prs) (hs : bl P + bl prs + bl Q ≤ 8000) :
    Calls Tryd.prog 42 #[.pointer (some ⟨p, 0, none⟩), .int .i64 (bl P), .int .i64 (bl D), .string ⟨(U.encs prs).toArray⟩] w fun e w' => e = .returned .nilIface ∧ ∃ t', t'.runes = P ++ prs ++ Q ∧ Good t' ∧ Lay w w' p t t' := by
  have HH := Hd.mk h
  have HG := Hd.mk hg
  have HS := Hd.mk hs
  have HP := Hd.mk hp
  have hbt : bl t.runes = bl P + bl D + bl Q := by rw [hr]; simp only [bl_append]
  have hsz := hg.sz
  have hbp : bl prs ≤ 8000 := by omega
  have hlp : (U.encs prs).length = bl prs := rfl
  have HC := fun w1 => Hd.mk (count_calls (U.sp_encs hp) w1 (by rw [hlp]; omega))
  have HE1 : Hd (redg (U.encs t.runes) (bl P) = true) := ⟨(redg_iff hg.all (by omega)).2 ⟨P, D ++ Q, by rw [hr]; simp, rfl⟩⟩
  have HE2 : Hd (redg (U.encs t.runes) (bl P + bl D) = true) := ⟨(redg_iff hg.all (by omega)).2 ⟨P ++ D, Q, hr, by simp⟩⟩
  have HR := Hd.mk hr
  clear hr h hg hp
  obtain ⟨n, hn⟩ : ∃ n, n = bl t.runes := ⟨_, rfl⟩
  have HN := Hd.mk hn
  rw [← hn] at hbt hsz
  obtain ⟨at_, hat⟩ : ∃ x, x = bl P := ⟨_, rfl⟩
  obtain ⟨dr, hdr⟩ : ∃ x, x = bl D := ⟨_, rfl⟩
  have HAT := Hd.mk hat
  have HDR := Hd.mk hdr
  rw [← hat, ← hdr] at hbt
  rw [← hat, ← hdr]
  have hq : at_ + dr ≤ n := by omega
  have hfull : n - dr + bl prs ≤ 8000 := by omega
  clear hbt hn hat hdr hs
  go_enter Tryd.func42, Tryd.ntmps42
  rw [← HAT.out] at HE1 HE2
  rw [← HDR.out] at HE2
  have HAD : Hd ((at_ : Int) + (dr : Int) = ((at_ + dr : Nat) : Int)) := ⟨by omega⟩
  go_wp2_with (first
    | (go_at_call 61; refine (counts_calls HH.out).mono ?_; rintro e w1 ⟨rfl, hb1⟩; rw [Cn.v_eq, cnt_b, ← HN.out]; have HB1 := Hd.mk hb1; clear hb1)
    | (go_at_call 17; refine (HC _).out.mono ?_; rintro e w2 ⟨hb2, he, -⟩; obtain rfl := he rfl; have HB2 := Hd.mk (bstep HB1.out hb2); clear hb2 he)
    | (go_at_call_of 100 (Value.int .i64 (at_ : Int)); refine (edge_calls (HH.out.below (ex_alloc HB2.out _)) HG.out (by have := HN.out; omega)).mono ?_; rintro e w3 ⟨he, hb3⟩; rw [HE1.out] at he; obtain rfl := he; have HB3 := Hd.mk (bstep (ex_alloc HB2.out _) hb3); clear hb3)
    | (go_at_call 100; rw [HAD.out]; refine (edge_calls (HH.out.below HB3.out) HG.out (by have := HN.out; omega)).mono ?_; rintro e w4 ⟨he, hb4⟩; rw [HE2.out] at he; obtain rfl := he; have HB4 := Hd.mk (bstep HB3.out hb4); clear hb4))
  obtain ⟨c, k, A, B, hd, hf, hhd, hcl, hcase⟩ := head_of (P := P) (R := D ++ Q) HG.out (by rw [HR.out]; simp)
  rw [← HAT.out] at hf hcase
  have HFD := Hd.mk (fun w1 (hb : Below w.heap.size w w1) => find_calls (k := at_) (HH.out.below hb) (by have := HN.out; omega) (by omega))
  rw [hf] at HFD
  have HHD := Hd.mk hhd
  clear hf hhd
  rcases hcase with ⟨h1, h2, h3, h4, h5, h6⟩ | ⟨h1, h2, h3⟩
  · have hi1 : (k : Int) < (at_ : Int) := by omega
    have hi2 : (U.encs c == []) = false := by rw [beq_eq_false_iff_ne]; intro e; have := bl_pos h2; unfold bl at this; rw [e] at this; simp at this
    have hlc : (U.encs c).length = bl c := rfl
    have hi3 : (at_ : Int) ≤ (k : Int) + (bl c : Int) := by omega
    have e1 := ext_take0 (s := U.encs c) (k := bl hd) (by omega)
    rw [h6, show bl hd = at_ - k by omega] at e1
    have H3 := Hd.mk h3
    have H4 := Hd.mk h4
    clear h1 h2 h3 h4 h5 h6
    go_wp2_with (go_at_call 101; refine (HFD.out _ HB4.out).mono ?_; rintro e w5 ⟨rfl, hb5⟩; have HB5 := Hd.mk (bstep HB4.out hb5); clear hb5)
    go_loopg [16, 17] B.length (fun gk tl lf wr => ∃ (t' : RT) (B' : List (List Int)) (T : List Int) (l : Int), tl = .string ⟨(U.encs T).toArray⟩ ∧ lf = .int .i64 l ∧ B'.length = gk ∧ SplT w wr p k t t' A B B' ∧ SplI Q B' T l ∧ bl T ≤ 32)
    case atStart =>
      have hst := SplI.start (D := D) HHD.out.post (by have := H4.out; have := HDR.out; omega)
      have e : ((bl hd + bl D : Nat) : Int) = (at_ : Int) + (dr : Int) - (k : Int) := by have := H4.out; have := HDR.out; omega
      rw [e] at hst
      exact ⟨t, B, [], _, rfl, rfl, rfl, ⟨HHD.out.ch, H3.out, Lay.start HH.out HG.out.nodup HB5.out, HG.out.ne, HG.out.le, HG.out.sz⟩, hst, by simp⟩
    case round =>
      obtain ⟨t', B', T, l, rfl, rfl, hgk, hT, hI, htl⟩ := hrel
      have HGK := Hd.mk hgk
      have HI := Hd.mk hI
      by_cases hl : 0 < l
      · obtain ⟨c2, B2, rfl⟩ := hI.ne hl
        obtain ⟨x, rfl⟩ : ∃ x : Nat, l = x := ⟨l.toNat, by omega⟩
        have hcl2 : bl c2 ≤ 32 := hT.le c2 (by rw [hT.ch]; simp)
        have hx8 : (x : Int) ≤ 8000 := hI.1
        have hlc2 : (U.encs c2).length = bl c2 := rfl
        have HTT := Hd.mk hT
        have c0 := hT.lay.at_.blk.cell 0
        have cf := hT.lay.at_.blk.frozen
        have cl := hT.lay.at_.blk.lt
        simp only [List.getElem?_toArray, List.getElem?_cons_zero, RT.ptr] at c0
        obtain ⟨hT0, hst⟩ := hI.step (by omega) hcl2
        subst hT0
        rcases hst with ⟨hlt, d, hd1, hd2, hd3⟩ | ⟨hge, hd3⟩
        · have hi5 : (x : Int) < (bl c2 : Int) := by omega
          have e2 : (ByteArray.mk (U.encs c2).toArray).extract x (bl c2) = ⟨(U.encs d).toArray⟩ := by rw [← hd1]; exact ext_drop _ _
          have hxl : x ≤ bl c2 := by omega
          have HD3 := Hd.mk hd3
          have HD2 := Hd.mk hd2
          clear hd1 hd3 hd2 hI hT hgk htl
          go_wp2_with (first
            | (go_at_call 101; refine HTT.out.find.mono ?_; rintro e w6 ⟨rfl, hb6⟩; have hp6 := (HTT.out.lay.at_.below hb6).blk; have c0 := hp6.cell 0; have cf := hp6.frozen; have cl := hp6.lt; simp only [List.getElem?_toArray, List.getElem?_cons_zero, RT.ptr] at c0; have HB6 := Hd.mk hb6; clear hb6 hp6)
            | (go_at_call 102; refine (HTT.out.takes HB6.out).mono ?_; rintro e w7 ⟨he, ht7, ho7⟩; rw [RT.ptr] at he; obtain rfl := he; have hp7 := (HTT.out.lay.at_.below HB6.out).blk.only ho7 HTT.out.lay.at_.out; have c0 := hp7.cell 0; have cf := hp7.frozen; have cl := hp7.lt; simp only [List.getElem?_toArray, List.getElem?_cons_zero, RT.ptr] at c0; have HT7 := Hd.mk ht7; have HO7 := Hd.mk ho7; clear ht7 ho7 hp7))
          go_roundg B2.length
          case rel => exact ⟨t'.takeT k, B2, d, (x : Int) - bl c2, rfl, rfl, rfl, (HTT.out.then_below HB6.out).take HT7.out HO7.out, HD3.out, HD2.out⟩
          case measure => have := HGK.out; simp at this; omega
        · have hi5 : ¬ ((x : Int) < (bl c2 : Int)) := by omega
          have HD3 := Hd.mk hd3
          clear hd3 hI hT hgk htl
          go_wp2_with (first
            | (go_at_call 101; refine HTT.out.find.mono ?_; rintro e w6 ⟨rfl, hb6⟩; have hp6 := (HTT.out.lay.at_.below hb6).blk; have c0 := hp6.cell 0; have cf := hp6.frozen; have cl := hp6.lt; simp only [List.getElem?_toArray, List.getElem?_cons_zero, RT.ptr] at c0; have HB6 := Hd.mk hb6; clear hb6 hp6)
            | (go_at_call 102; refine (HTT.out.takes HB6.out).mono ?_; rintro e w7 ⟨he, ht7, ho7⟩; rw [RT.ptr] at he; obtain rfl := he; have hp7 := (HTT.out.lay.at_.below HB6.out).blk.only ho7 HTT.out.lay.at_.out; have c0 := hp7.cell 0; have cf := hp7.frozen; have cl := hp7.lt; simp only [List.getElem?_toArray, List.getElem?_cons_zero, RT.ptr] at c0; have HT7 := Hd.mk ht7; have HO7 := Hd.mk ho7; clear ht7 ho7 hp7))
          go_roundg B2.length
          case rel => exact ⟨t'.takeT k, B2, [], (x : Int) - bl c2, rfl, rfl, rfl, (HTT.out.then_below HB6.out).take HT7.out HO7.out, HD3.out, by simp⟩
          case measure => have := HGK.out; simp at this; omega
      · have HTQ := Hd.mk (hI.done hl)
        have HTT := Hd.mk hT
        have HTL := Hd.mk htl
        clear hI hT hgk htl
        have hlh : (U.encs hd).length = bl hd := rfl
        have hhd : bl hd ≤ 8000 := by have := H4.out; omega
        by_cases hT0 : T = []
        · subst hT0
          by_cases hm : bl hd + bl prs < 32
          · have hm2 : (bl hd : Int) + (bl prs : Int) < 32 := by omega
            cases B' with
            | cons c3 B2 =>
              have hcl3 : bl c3 ≤ 32 := HTT.out.le c3 (by rw [HTT.out.ch]; simp)
              have hlc3 : (U.encs c3).length = bl c3 := rfl
              have hn3 : (U.encs c3 == []) = false := by rw [beq_eq_false_iff_ne]; intro e; have := bl_pos (HTT.out.ne c3 (by rw [HTT.out.ch]; simp)); unfold bl at this; rw [e] at this; simp at this
              by_cases hs3 : bl hd + bl prs + bl c3 ≤ 32
              · have hs4 : (bl hd : Int) + (bl prs : Int) + (bl c3 : Int) ≤ 32 := by omega
                replace HTQ : Hd (c3 ++ B2.flatten = Q) := ⟨by simpa using HTQ.out⟩
                go_wp2_with (first
                  | (go_at_call 101; refine HTT.out.find.mono ?_; rintro e w6 ⟨rfl, hb6⟩; have hp6 := (HTT.out.lay.at_.below hb6).blk; have c0 := hp6.cell 0; have cf := hp6.frozen; have cl := hp6.lt; simp only [List.getElem?_toArray, List.getElem?_cons_zero, RT.ptr] at c0; have HB6 := Hd.mk hb6; clear hb6 hp6)
                  | (go_at_call 102; refine (HTT.out.takes HB6.out).mono ?_; rintro e w7 ⟨he, ht7, ho7⟩; rw [RT.ptr] at he; obtain rfl := he; have hp7 := (HTT.out.lay.at_.below HB6.out).blk.only ho7 HTT.out.lay.at_.out; have c0 := hp7.cell 0; have cf := hp7.frozen; have cl := hp7.lt; simp only [List.getElem?_toArray, List.getElem?_cons_zero, RT.ptr] at c0; have HT7 := Hd.mk ht7; have HO7 := Hd.mk ho7; clear ht7 ho7 hp7)
                  | (go_at_call 99; refine (((HTT.out.then_below HB6.out).take HT7.out HO7.out).lays (T := c3) (h := hd) (D := D) (by show ByteArray.mk _ ++ ByteArray.mk _ ++ ByteArray.mk (U.encs (c3)).toArray = _; rw [str_append, str_append, U.encs_append, U.encs_append]) HHD.out.pre HTQ.out HR.out HG.out HP.out HS.out).mono ?_; rintro e w9 ⟨rfl, t2, hr2, hg2, hL2⟩; have HF2 := Hd.mk (And.intro hr2 (And.intro hg2 hL2)); clear hr2 hg2 hL2))
                go_ret
                exact ⟨rfl, t2, HF2.out⟩
              · have hs4 : ¬ ((bl hd : Int) + (bl prs : Int) + (bl c3 : Int) ≤ 32) := by omega
                go_wp2_with (first
                  | (go_at_call 101; refine HTT.out.find.mono ?_; rintro e w6 ⟨rfl, hb6⟩; have HB6 := Hd.mk hb6; clear hb6)
                  | (go_at_call 99; refine ((HTT.out.then_below HB6.out).lays (T := []) (h := hd) (D := D) (by show ByteArray.mk _ ++ ByteArray.mk _ ++ ByteArray.mk (U.encs ([])).toArray = _; rw [str_append, str_append, U.encs_append, U.encs_append]) HHD.out.pre HTQ.out HR.out HG.out HP.out HS.out).mono ?_; rintro e w9 ⟨rfl, t2, hr2, hg2, hL2⟩; have HF2 := Hd.mk (And.intro hr2 (And.intro hg2 hL2)); clear hr2 hg2 hL2))
                go_ret
                exact ⟨rfl, t2, HF2.out⟩
            | nil =>
              obtain ⟨c3, k3, hf3, hc3, hz3⟩ := find_end HTT.out.ne
              have hca : cb t'.chunks = k := by rw [HTT.out.ch, List.append_nil]; exact HTT.out.ka
              rw [hca] at hf3 hz3
              have hk8 : k ≤ 8000 := by have := HTT.out.sz; rw [← cb_runes, hca] at this; exact this
              have HFE := Hd.mk (find_calls (k := k) HTT.out.lay.at_ (by have := HTT.out.sz; omega) (by omega))
              rw [hf3] at HFE
              clear hf3 hc3 hca
              by_cases hk3 : k3 = k
              · have hc0 : c3 = [] := hz3.resolve_right (by omega)
                subst hc0
                subst hk3
                clear hz3
                simp only [U.encs_nil] at HFE
                go_wp2_with (first
                  | (go_at_call 101; refine HFE.out.mono ?_; rintro e w6 ⟨rfl, hb6⟩; have HB6 := Hd.mk hb6; clear hb6)
                  | (go_at_call 99; refine ((HTT.out.then_below HB6.out).lays (T := []) (h := hd) (D := D) (by show ByteArray.mk _ ++ ByteArray.mk _ ++ ByteArray.mk (U.encs ([])).toArray = _; rw [str_append, str_append, U.encs_append, U.encs_append]) HHD.out.pre HTQ.out HR.out HG.out HP.out HS.out).mono ?_; rintro e w9 ⟨rfl, t2, hr2, hg2, hL2⟩; have HF2 := Hd.mk (And.intro hr2 (And.intro hg2 hL2)); clear hr2 hg2 hL2))
                go_ret
                exact ⟨rfl, t2, HF2.out⟩
              · have hkk : ((k3 : Int) == (k : Int)) = false := by rw [beq_eq_false_iff_ne]; omega
                clear hz3
                go_wp2_with (first
                  | (go_at_call 101; refine HFE.out.mono ?_; rintro e w6 ⟨rfl, hb6⟩; have HB6 := Hd.mk hb6; clear hb6)
                  | (go_at_call 99; refine ((HTT.out.then_below HB6.out).lays (T := []) (h := hd) (D := D) (by show ByteArray.mk _ ++ ByteArray.mk _ ++ ByteArray.mk (U.encs ([])).toArray = _; rw [str_append, str_append, U.encs_append, U.encs_append]) HHD.out.pre HTQ.out HR.out HG.out HP.out HS.out).mono ?_; rintro e w9 ⟨rfl, t2, hr2, hg2, hL2⟩; have HF2 := Hd.mk (And.intro hr2 (And.intro hg2 hL2)); clear hr2 hg2 hL2))
                go_ret
                exact ⟨rfl, t2, HF2.out⟩
          · have hm2 : ¬ ((bl hd : Int) + (bl prs : Int) < 32) := by omega
            clear hm
            go_wp2_with (go_at_call 99; refine (HTT.out.lays (T := []) (h := hd) (D := D) (by show ByteArray.mk _ ++ ByteArray.mk _ ++ ByteArray.mk (U.encs ([])).toArray = _; rw [str_append, str_append, U.encs_append, U.encs_append]) HHD.out.pre HTQ.out HR.out HG.out HP.out HS.out).mono ?_; rintro e w9 ⟨rfl, t2, hr2, hg2, hL2⟩; have HF2 := Hd.mk (And.intro hr2 (And.intro hg2 hL2)); clear hr2 hg2 hL2)
            go_ret
            exact ⟨rfl, t2, HF2.out⟩
        · have hTb : (U.encs T == []) = false := by rw [beq_eq_false_iff_ne]; intro e; have := bl_pos hT0; unfold bl at this; rw [e] at this; simp at this
          have hlt : (U.encs T).length ≤ 32 := HTL.out
          clear hT0
          go_wp2_with (go_at_call 99; refine (HTT.out.lays (T := T) (h := hd) (D := D) (by show ByteArray.mk _ ++ ByteArray.mk _ ++ ByteArray.mk (U.encs (T)).toArray = _; rw [str_append, str_append, U.encs_append, U.encs_append]) HHD.out.pre HTQ.out HR.out HG.out HP.out HS.out).mono ?_; rintro e w9 ⟨rfl, t2, hr2, hg2, hL2⟩; have HF2 := Hd.mk (And.intro hr2 (And.intro hg2 hL2)); clear hr2 hg2 hL2)
          go_ret
          exact ⟨rfl, t2, HF2.out⟩
  · have hi1 : ¬ ((k : Int) < (at_ : Int)) := by omega
    subst h3
    have H3 : Hd (cb A = at_) := ⟨h2⟩
    have H4 : Hd (at_ = at_ + bl ([] : List Int)) := ⟨rfl⟩
    have hat8 : at_ ≤ 8000 := by omega
    clear h1 h2
    go_wp2_with (go_at_call 101; refine (HFD.out _ HB4.out).mono ?_; rintro e w5 ⟨rfl, hb5⟩; have HB5 := Hd.mk (bstep HB4.out hb5); clear hb5)
    go_loopg [16, 17] B.length (fun gk tl lf wr => ∃ (t' : RT) (B' : List (List Int)) (T : List Int) (l : Int), tl = .string ⟨(U.encs T).toArray⟩ ∧ lf = .int .i64 l ∧ B'.length = gk ∧ SplT w wr p at_ t t' A B B' ∧ SplI Q B' T l ∧ bl T ≤ 32)
    case atStart =>
      have hst := SplI.start (D := D) HHD.out.post (by have := H4.out; have := HDR.out; omega)
      have e : ((bl ([] : List Int) + bl D : Nat) : Int) = (at_ : Int) + (dr : Int) - (at_ : Int) := by have := H4.out; have := HDR.out; omega
      rw [e] at hst
      exact ⟨t, B, [], _, rfl, rfl, rfl, ⟨HHD.out.ch, H3.out, Lay.start HH.out HG.out.nodup HB5.out, HG.out.ne, HG.out.le, HG.out.sz⟩, hst, by simp⟩
    case round =>
      obtain ⟨t', B', T, l, rfl, rfl, hgk, hT, hI, htl⟩ := hrel
      have HGK := Hd.mk hgk
      have HI := Hd.mk hI
      by_cases hl : 0 < l
      · obtain ⟨c2, B2, rfl⟩ := hI.ne hl
        obtain ⟨x, rfl⟩ : ∃ x : Nat, l = x := ⟨l.toNat, by omega⟩
        have hcl2 : bl c2 ≤ 32 := hT.le c2 (by rw [hT.ch]; simp)
        have hx8 : (x : Int) ≤ 8000 := hI.1
        have hlc2 : (U.encs c2).length = bl c2 := rfl
        have HTT := Hd.mk hT
        have c0 := hT.lay.at_.blk.cell 0
        have cf := hT.lay.at_.blk.frozen
        have cl := hT.lay.at_.blk.lt
        simp only [List.getElem?_toArray, List.getElem?_cons_zero, RT.ptr] at c0
        obtain ⟨hT0, hst⟩ := hI.step (by omega) hcl2
        subst hT0
        rcases hst with ⟨hlt, d, hd1, hd2, hd3⟩ | ⟨hge, hd3⟩
        · have hi5 : (x : Int) < (bl c2 : Int) := by omega
          have e2 : (ByteArray.mk (U.encs c2).toArray).extract x (bl c2) = ⟨(U.encs d).toArray⟩ := by rw [← hd1]; exact ext_drop _ _
          have hxl : x ≤ bl c2 := by omega
          have HD3 := Hd.mk hd3
          have HD2 := Hd.mk hd2
          clear hd1 hd3 hd2 hI hT hgk htl
          go_wp2_with (first
            | (go_at_call 101; refine HTT.out.find.mono ?_; rintro e w6 ⟨rfl, hb6⟩; have hp6 := (HTT.out.lay.at_.below hb6).blk; have c0 := hp6.cell 0; have cf := hp6.frozen; have cl := hp6.lt; simp only [List.getElem?_toArray, List.getElem?_cons_zero, RT.ptr] at c0; have HB6 := Hd.mk hb6; clear hb6 hp6)
            | (go_at_call 102; refine (HTT.out.takes HB6.out).mono ?_; rintro e w7 ⟨he, ht7, ho7⟩; rw [RT.ptr] at he; obtain rfl := he; have hp7 := (HTT.out.lay.at_.below HB6.out).blk.only ho7 HTT.out.lay.at_.out; have c0 := hp7.cell 0; have cf := hp7.frozen; have cl := hp7.lt; simp only [List.getElem?_toArray, List.getElem?_cons_zero, RT.ptr] at c0; have HT7 := Hd.mk ht7; have HO7 := Hd.mk ho7; clear ht7 ho7 hp7))
          go_roundg B2.length
          case rel => exact ⟨t'.takeT at_, B2, d, (x : Int) - bl c2, rfl, rfl, rfl, (HTT.out.then_below HB6.out).take HT7.out HO7.out, HD3.out, HD2.out⟩
          case measure => have := HGK.out; simp at this; omega
        · have hi5 : ¬ ((x : Int) < (bl c2 : Int)) := by omega
          have HD3 := Hd.mk hd3
          clear hd3 hI hT hgk htl
          go_wp2_with (first
            | (go_at_call 101; refine HTT.out.find.mono ?_; rintro e w6 ⟨rfl, hb6⟩; have hp6 := (HTT.out.lay.at_.below hb6).blk; have c0 := hp6.cell 0; have cf := hp6.frozen; have cl := hp6.lt; simp only [List.getElem?_toArray, List.getElem?_cons_zero, RT.ptr] at c0; have HB6 := Hd.mk hb6; clear hb6 hp6)
            | (go_at_call 102; refine (HTT.out.takes HB6.out).mono ?_; rintro e w7 ⟨he, ht7, ho7⟩; rw [RT.ptr] at he; obtain rfl := he; have hp7 := (HTT.out.lay.at_.below HB6.out).blk.only ho7 HTT.out.lay.at_.out; have c0 := hp7.cell 0; have cf := hp7.frozen; have cl := hp7.lt; simp only [List.getElem?_toArray, List.getElem?_cons_zero, RT.ptr] at c0; have HT7 := Hd.mk ht7; have HO7 := Hd.mk ho7; clear ht7 ho7 hp7))
          go_roundg B2.length
          case rel => exact ⟨t'.takeT at_, B2, [], (x : Int) - bl c2, rfl, rfl, rfl, (HTT.out.then_below HB6.out).take HT7.out HO7.out, HD3.out, by simp⟩
          case measure => have := HGK.out; simp at this; omega
      · have HTQ := Hd.mk (hI.done hl)
        have HTT := Hd.mk hT
        have HTL := Hd.mk htl
        clear hI hT hgk htl
        have hlh : (U.encs ([] : List Int)).length = bl ([] : List Int) := rfl
        have hhd : bl ([] : List Int) ≤ 8000 := by have := H4.out; omega
        by_cases hT0 : T = []
        · subst hT0
          by_cases hm : bl prs < 32
          · have hm2 : (bl prs : Int) < 32 := by omega
            cases B' with
            | cons c3 B2 =>
              have hcl3 : bl c3 ≤ 32 := HTT.out.le c3 (by rw [HTT.out.ch]; simp)
              have hlc3 : (U.encs c3).length = bl c3 := rfl
              have hn3 : (U.encs c3 == []) = false := by rw [beq_eq_false_iff_ne]; intro e; have := bl_pos (HTT.out.ne c3 (by rw [HTT.out.ch]; simp)); unfold bl at this; rw [e] at this; simp at this
              by_cases hs3 : bl prs + bl c3 ≤ 32
              · have hs4 : (bl prs : Int) + (bl c3 : Int) ≤ 32 := by omega
                replace HTQ : Hd (c3 ++ B2.flatten = Q) := ⟨by simpa using HTQ.out⟩
                go_wp2_with (first
                  | (go_at_call 101; refine HTT.out.find.mono ?_; rintro e w6 ⟨rfl, hb6⟩; have hp6 := (HTT.out.lay.at_.below hb6).blk; have c0 := hp6.cell 0; have cf := hp6.frozen; have cl := hp6.lt; simp only [List.getElem?_toArray, List.getElem?_cons_zero, RT.ptr] at c0; have HB6 := Hd.mk hb6; clear hb6 hp6)
                  | (go_at_call 102; refine (HTT.out.takes HB6.out).mono ?_; rintro e w7 ⟨he, ht7, ho7⟩; rw [RT.ptr] at he; obtain rfl := he; have hp7 := (HTT.out.lay.at_.below HB6.out).blk.only ho7 HTT.out.lay.at_.out; have c0 := hp7.cell 0; have cf := hp7.frozen; have cl := hp7.lt; simp only [List.getElem?_toArray, List.getElem?_cons_zero, RT.ptr] at c0; have HT7 := Hd.mk ht7; have HO7 := Hd.mk ho7; clear ht7 ho7 hp7)
                  | (go_at_call 99; refine (((HTT.out.then_below HB6.out).take HT7.out HO7.out).lays (T := c3) (h := ([] : List Int)) (D := D) (by show ByteArray.mk (U.encs []).toArray ++ ByteArray.mk _ ++ ByteArray.mk (U.encs (c3)).toArray = _; rw [str_append, str_append, U.encs_append, U.encs_append]) HHD.out.pre HTQ.out HR.out HG.out HP.out HS.out).mono ?_; rintro e w9 ⟨rfl, t2, hr2, hg2, hL2⟩; have HF2 := Hd.mk (And.intro hr2 (And.intro hg2 hL2)); clear hr2 hg2 hL2))
                go_ret
                exact ⟨rfl, t2, HF2.out⟩
              · have hs4 : ¬ ((bl prs : Int) + (bl c3 : Int) ≤ 32) := by omega
                go_wp2_with (first
                  | (go_at_call 101; refine HTT.out.find.mono ?_; rintro e w6 ⟨rfl, hb6⟩; have HB6 := Hd.mk hb6; clear hb6)
                  | (go_at_call 99; refine ((HTT.out.then_below HB6.out).lays (T := []) (h := ([] : List Int)) (D := D) (by show ByteArray.mk (U.encs []).toArray ++ ByteArray.mk _ ++ ByteArray.mk (U.encs ([])).toArray = _; rw [str_append, str_append, U.encs_append, U.encs_append]) HHD.out.pre HTQ.out HR.out HG.out HP.out HS.out).mono ?_; rintro e w9 ⟨rfl, t2, hr2, hg2, hL2⟩; have HF2 := Hd.mk (And.intro hr2 (And.intro hg2 hL2)); clear hr2 hg2 hL2))
                go_ret
                exact ⟨rfl, t2, HF2.out⟩
            | nil =>
              obtain ⟨c3, k3, hf3, hc3, hz3⟩ := find_end HTT.out.ne
              have hca : cb t'.chunks = at_ := by rw [HTT.out.ch, List.append_nil]; exact HTT.out.ka
              rw [hca] at hf3 hz3
              have hk8 : at_ ≤ 8000 := by have := HTT.out.sz; rw [← cb_runes, hca] at this; exact this
              have HFE := Hd.mk (find_calls (k := at_) HTT.out.lay.at_ (by have := HTT.out.sz; omega) (by omega))
              rw [hf3] at HFE
              clear hf3 hc3 hca
              by_cases hk3 : k3 = at_
              · have hc0 : c3 = [] := hz3.resolve_right (by omega)
                subst hc0
                subst hk3
                clear hz3
                simp only [U.encs_nil] at HFE
                go_wp2_with (first
                  | (go_at_call 101; refine HFE.out.mono ?_; rintro e w6 ⟨rfl, hb6⟩; have HB6 := Hd.mk hb6; clear hb6)
                  | (go_at_call 99; refine ((HTT.out.then_below HB6.out).lays (T := []) (h := ([] : List Int)) (D := D) (by show ByteArray.mk (U.encs []).toArray ++ ByteArray.mk _ ++ ByteArray.mk (U.encs ([])).toArray = _; rw [str_append, str_append, U.encs_append, U.encs_append]) HHD.out.pre HTQ.out HR.out HG.out HP.out HS.out).mono ?_; rintro e w9 ⟨rfl, t2, hr2, hg2, hL2⟩; have HF2 := Hd.mk (And.intro hr2 (And.intro hg2 hL2)); clear hr2 hg2 hL2))
                go_ret
                exact ⟨rfl, t2, HF2.out⟩
              · have hkk : ((k3 : Int) == (at_ : Int)) = false := by rw [beq_eq_false_iff_ne]; omega
                clear hz3
                go_wp2_with (first
                  | (go_at_call 101; refine HFE.out.mono ?_; rintro e w6 ⟨rfl, hb6⟩; have HB6 := Hd.mk hb6; clear hb6)
                  | (go_at_call 99; refine ((HTT.out.then_below HB6.out).lays (T := []) (h := ([] : List Int)) (D := D) (by show ByteArray.mk (U.encs []).toArray ++ ByteArray.mk _ ++ ByteArray.mk (U.encs ([])).toArray = _; rw [str_append, str_append, U.encs_append, U.encs_append]) HHD.out.pre HTQ.out HR.out HG.out HP.out HS.out).mono ?_; rintro e w9 ⟨rfl, t2, hr2, hg2, hL2⟩; have HF2 := Hd.mk (And.intro hr2 (And.intro hg2 hL2)); clear hr2 hg2 hL2))
                go_ret
                exact ⟨rfl, t2, HF2.out⟩
          · have hm2 : ¬ ((bl prs : Int) < 32) := by omega
            clear hm
            go_wp2_with (go_at_call 99; refine (HTT.out.lays (T := []) (h := ([] : List Int)) (D := D) (by show ByteArray.mk (U.encs []).toArray ++ ByteArray.mk _ ++ ByteArray.mk (U.encs ([])).toArray = _; rw [str_append, str_append, U.encs_append, U.encs_append]) HHD.out.pre HTQ.out HR.out HG.out HP.out HS.out).mono ?_; rintro e w9 ⟨rfl, t2, hr2, hg2, hL2⟩; have HF2 := Hd.mk (And.intro hr2 (And.intro hg2 hL2)); clear hr2 hg2 hL2)
            go_ret
            exact ⟨rfl, t2, HF2.out⟩
        · have hTb : (U.encs T == []) = false := by rw [beq_eq_false_iff_ne]; intro e; have := bl_pos hT0; unfold bl at this; rw [e] at this; simp at this
          have hlt : (U.encs T).length ≤ 32 := HTL.out
          clear hT0
          go_wp2_with (go_at_call 99; refine (HTT.out.lays (T := T) (h := ([] : List Int)) (D := D) (by show ByteArray.mk (U.encs []).toArray ++ ByteArray.mk _ ++ ByteArray.mk (U.encs (T)).toArray = _; rw [str_append, str_append, U.encs_append, U.encs_append]) HHD.out.pre HTQ.out HR.out HG.out HP.out HS.out).mono ?_; rintro e w9 ⟨rfl, t2, hr2, hg2, hL2⟩; have HF2 := Hd.mk (And.intro hr2 (And.intro hg2 hL2)); clear hr2 hg2 hL2)
          go_ret
          exact ⟨rfl, t2, HF2.out⟩
end Go.Proofs.YtgokmldngnmmhaaDoor
