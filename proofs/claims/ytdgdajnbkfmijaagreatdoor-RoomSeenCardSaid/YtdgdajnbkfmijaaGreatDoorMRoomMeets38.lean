/- Several texts of the proof, one behind the other: OpL, SrvM, OpsMeetP, CliM, RmM, ShI, RefH, LineP. -/
import Derived.Test.YtdgdajnbkfmijaaGreatDoorMRoomMeets30
import Derived.Test.YtdgdajnbkfmijaaGreatDoorMRoomMeets31
import Derived.Test.YtdgdajnbkfmijaaGreatDoorMRoomMeets32
import Derived.Test.YtdgdajnbkfmijaaGreatDoorMRoomMeets16
import Derived.BigQuiet
import Derived.Deep.QuietTactic
import Derived.Test.YtdgdajnbkfmijaaGreatDoorMRoomMeets33
import Derived.Test.YtdgdajnbkfmijaaGreatDoorMRoomMeets20
import Derived.Test.YtdgdajnbkfmijaaGreatDoorMRoomMeets7
import Derived.Lib.Bytealg
import Derived.Test.YtdgdajnbkfmijaaGreatDoorMRoomMeets8
import Derived.Test.YtdgdajnbkfmijaaGreatDoorMRoomMeets10
/- Transform, Compose, Apply, Invert of operations over runes. -/
namespace Go.Proofs.YtdgdajnbkfmijaaGreatDoor
open Go.RowKit
set_option maxRecDepth 100000
theorem rws_ps (rs : List Int) (X : List (RU Int)) : rws U.wid (rs.map .p ++ X) = bl rs + rws U.wid X := by
  induction rs with
  | nil => simp
  | cons r rs ih => simp only [List.map_cons, List.cons_append, rws, ih, bl_cons]; omega
theorem rws_ks (n : Nat) (X : List (RU Int)) : rws U.wid (List.replicate n .k ++ X) = rws U.wid X := by
  induction n with
  | zero => rfl
  | succ n ih => simp only [List.replicate_succ, List.cons_append, rws, ih]
theorem rws_ds (n : Nat) (X : List (RU Int)) : rws U.wid (List.replicate n .d ++ X) = rws U.wid X := by
  induction n with
  | zero => rfl
  | succ n ih => simp only [List.replicate_succ, List.cons_append, rws, ih]
theorem OpR.plen_ {l : List PT} {X : List (RU Int)} {R : List Int} (h : OpR l X R) : plen l = rws U.wid X := by
  induction h with
  | nil => rfl
  | put _ _ _ ih => rw [plen, rws_ps, ih]; rfl
  | keep _ _ ih => rw [plen, rws_ks, ih]; simp
  | drop _ _ ih => rw [plen, rws_ds, ih]; simp
theorem parts_le {l : List PT} (h : ∀ p ∈ l, p.arg) : (l.length : Int) ≤ was l + plen l := by
  induction l with
  | nil => simp [was, plen]
  | cons p l ih =>
    have i := ih fun q hq => h q (by simp [hq])
    rw [was, plen, List.length_cons]
    rcases (h p (by simp)).cases with ⟨b, hb, rfl⟩ | ⟨n, hn, rfl⟩ | ⟨n, hn, rfl⟩
    · have := List.length_pos_iff.2 hb
      dsimp only; omega
    · dsimp only [List.length_nil]; omega
    · dsimp only [List.length_nil]; omega
theorem plen_comes {l : List PT} (h : ∀ p ∈ l, p.arg) : (plen l : Int) ≤ comes l := by
  induction l with
  | nil => simp [comes, plen]
  | cons p l ih =>
    have i := ih fun q hq => h q (by simp [hq])
    have := (h p (by simp)).2.1
    rw [comes, plen]
    omega
theorem OpR.args {l : List PT} {X : List (RU Int)} {R : List Int} (h : OpR l X R) : ∀ p ∈ l, p.arg := fun p hp => (h.arg p hp).1
theorem plen_mem' {l : List PT} {p : PT} (h : p ∈ l) : p.put.length ≤ plen l := by
  induction l with
  | nil => cases h
  | cons q l ih =>
    rw [plen]
    rcases List.mem_cons.1 h with rfl | h
    · omega
    · have := ih h; omega
/-- An operation over runes that is not too great. -/
structure OpB (l : List PT) (X : List (RU Int)) (R : List Int) : Prop where
  op : OpR l X R
  r : bl R ≤ 100000
  p : plen l ≤ 100000
theorem OpB.len {l : List PT} {X : List (RU Int)} {R : List Int} (h : OpB l X R) : l.length ≤ 200000 := by
  have h1 := parts_le h.op.args
  have h2 := h.op.sizes.1
  have := h.r
  have := h.p
  omega
theorem OpB.chk_ {l : List PT} {X : List (RU Int)} {R : List Int} (h : OpB l X R) : chk l (wrap64 (was l)) = 0 := by
  have h2 := h.op.sizes.1
  have := h.r
  rw [wrap_id (by omega) (by omega), h2]
  exact h.op.chk_
theorem rcm_mem {X Y : List (RU Int)} {r : Int} (h : .p r ∈ rcm X Y) : .p r ∈ X ∨ .p r ∈ Y := by
  generalize hm : X.length + Y.length = m
  induction m using Nat.strongRecOn generalizing X Y with
  | _ m ih =>
    have step : ∀ (X' Y' : List (RU Int)), X'.length + Y'.length < m → .p r ∈ rcm X' Y' → .p r ∈ X' ∨ .p r ∈ Y' := fun X' Y' h1 h2 => ih _ h1 h2 rfl
    clear ih
    match X, Y with
    | .d :: X, Y => have := step X Y (by simp at hm ⊢; omega); simp_all [rcm]
    | .p s :: X, .p q :: Y => have := step (.p s :: X) Y (by simp at hm ⊢; omega); simp only [rcm, List.mem_cons, RU.p.injEq] at h this ⊢; rcases h with h | h <;> simp_all; rcases this with h | h <;> simp_all
    | .k :: X, .p s :: Y => have := step (.k :: X) Y (by simp at hm ⊢; omega); simp only [rcm, List.mem_cons, RU.p.injEq] at h this ⊢; rcases h with h | h <;> simp_all; rcases this with h | h <;> simp_all
    | [], .p s :: Y => have := step [] Y (by simp at hm ⊢; omega); simp only [rcm, List.mem_cons, RU.p.injEq] at h this ⊢; rcases h with h | h <;> simp_all
    | .p s :: X, .k :: Y => have := step X Y (by simp at hm ⊢; omega); simp only [rcm, List.mem_cons, RU.p.injEq] at h this ⊢; rcases h with h | h <;> simp_all; rcases this with h | h <;> simp_all
    | .p s :: X, .d :: Y => have := step X Y (by simp at hm ⊢; omega); simp only [rcm, List.mem_cons, RU.p.injEq] at h this ⊢; have := this h; rcases this with h | h <;> simp_all
    | .k :: X, .k :: Y => have := step X Y (by simp at hm ⊢; omega); simp_all [rcm]
    | .k :: X, .d :: Y => have := step X Y (by simp at hm ⊢; omega); simp_all [rcm]
    | .p s :: X, [] => simp [rcm] at h
    | .k :: X, [] => simp [rcm] at h
    | [], .k :: Y => simp [rcm] at h
    | [], .d :: Y => simp [rcm] at h
    | [], [] => simp [rcm] at h
theorem rap_ps (rs : List Int) (X : List (RU Int)) (R : List Int) : rap (rs.map .p ++ X) R = rs ++ rap X R := by
  induction rs with
  | nil => rfl
  | cons r rs ih => simp only [List.map_cons, List.cons_append, rap, ih]
theorem rap_ks' (rs : List Int) (X : List (RU Int)) (R : List Int) : rap (List.replicate rs.length .k ++ X) (rs ++ R) = rs ++ rap X R := by
  induction rs with
  | nil => rfl
  | cons r rs ih => simp only [List.cons_append, rap, ih, List.length_cons, List.replicate_succ]
theorem rap_ds' (rs : List Int) (X : List (RU Int)) (R : List Int) : rap (List.replicate rs.length .d ++ X) (rs ++ R) = rap X R := by
  induction rs with
  | nil => rfl
  | cons r rs ih => simp only [List.cons_append, rap, ih, List.length_cons, List.replicate_succ]
/-- How great what is made is. -/
theorem OpR.bounds {l : List PT} {X : List (RU Int)} {R : List Int} (h : OpR l X R) : plen l ≤ bl (rap X R) ∧ bl (rap X R) ≤ bl R + plen l := by
  have h1 := plen_comes h.args
  have h2 := comes_bd h.args
  obtain ⟨h3, h4⟩ := h.sizes
  omega
theorem tr_plen {l la lb : List PT} {X Y : List (RU Int)} {R S : List Int} {first : Bool} (h : OpR l (rnm 0 (rtr first (rnm 0 X) (rnm 0 Y))) S) (ha : OpR la X R) (hb : OpR lb Y R) : plen l = plen la := by
  rw [h.plen_, ha.plen_, rws_rnm, (rtr_mask U.wid (by rw [ha.norm_.was_, hb.norm_.was_])).2, rws_rnm]
end Go.Proofs.YtdgdajnbkfmijaaGreatDoor
/- A server in plain Lean: what is done, over texts of bytes. -/
namespace Go.Proofs.YtdgdajnbkfmijaaGreatDoor
open Go.RowKit
set_option maxRecDepth 100000
/-- What Transform makes. -/
def trl (first : Bool) (a b : List PT) : List PT := urun (tr first (expand (norm a)) (expand (norm b)))
theorem trl_opr {first : Bool} {la lb : List PT} {X Y : List (RU Int)} {R : List Int} (hA : OpR la X R) (hB : OpR lb Y R) : OpR (trl first la lb) (rnm 0 (rtr first (rnm 0 X) (rnm 0 Y))) (rap Y R) := by
  have e1 : rap (rnm 0 Y) R = rap Y R := by rw [rnm_rap 0 Y R (by have := hB.was_; omega)]; rfl
  have hw1 := hA.norm_
  have hw2 := hB.norm_
  have e2 : tr first (expand (norm la)) (expand (norm lb)) = bexp (rtr first (rnm 0 X) (rnm 0 Y)) (rap Y R) := by
    rw [hw1.expand_, hw2.expand_, tr_bexp hw1.was_ hw2.was_, e1]
  have hm := rtr_meet (first := first) (X := rnm 0 X) (Y := rnm 0 Y) (R := R) hw1.was_ hw2.was_
  have hl : rwas (rtr first (rnm 0 X) (rnm 0 Y)) = (rap Y R).length := by rw [hm.2.1, ← e1, rap_len hw2.was_]
  have hp : AllP (rtr first (rnm 0 X) (rnm 0 Y)) := fun r hr => hw1.allP r (rtr_mem hr)
  unfold trl
  rw [e2]
  exact urun_bexp hl hp
/-- A text of so many bytes, each a rune. -/
def zs (n : Nat) : List Int := List.replicate n 48
theorem bl_zs (n : Nat) : bl (zs n) = n := by
  induction n with
  | zero => rfl
  | succ n ih =>
    have e : zs (n + 1) = 48 :: zs n := rfl
    have h1 : U.wid 48 = 1 := by decide
    rw [e, bl_cons, ih, h1]
    omega
theorem zs_add (a b : Nat) : zs (a + b) = zs a ++ zs b := by unfold zs; rw [List.replicate_append_replicate]
theorem zs_ne {n : Nat} (h : 0 < n) : zs n ≠ [] := fun e => by
  have := congrArg List.length e
  unfold zs at this
  simp at this
  omega
/-- An operation that may be is one over runes of a byte each. -/
theorem good_opr {l : List PT} (h : ∀ p ∈ l, p.Good) {n : Nat} (hw : was l = n) : ∃ X, OpR l X (zs n) := by
  induction l generalizing n with
  | nil =>
    obtain rfl : n = 0 := by rw [was] at hw; omega
    exact ⟨_, .nil⟩
  | cons p l ih =>
    have hp := h p (by simp)
    have hl : ∀ q ∈ l, q.Good := fun q hq => h q (by simp [hq])
    have hnn := was_nn (fun q hq => (hl q hq).1)
    rw [was] at hw
    rcases hp.1.cases with ⟨b, hb, rfl⟩ | ⟨m, hm, rfl⟩ | ⟨m, hm, rfl⟩
    · obtain ⟨rs, h1, h2, rfl⟩ := opR_put hp
      obtain ⟨X, hX⟩ := ih hl (n := n) (by dsimp only at hw; omega)
      exact ⟨_, .put h1 h2 hX⟩
    · obtain ⟨X, hX⟩ := ih hl (n := n - m) (by dsimp only at hw; omega)
      have e : zs n = zs m ++ zs (n - m) := by rw [← zs_add]; congr 1; dsimp only at hw; omega
      have := OpR.drop (rs := zs m) (zs_ne hm) hX
      rw [bl_zs] at this
      rw [e]
      exact ⟨_, this⟩
    · obtain ⟨X, hX⟩ := ih hl (n := n - m) (by dsimp only at hw; omega)
      have e : zs n = zs m ++ zs (n - m) := by rw [← zs_add]; congr 1; dsimp only at hw; omega
      have := OpR.keep (rs := zs m) (zs_ne hm) hX
      rw [bl_zs] at this
      rw [e]
      exact ⟨_, this⟩
theorem trl_good {first : Bool} {a b : List PT} {n : Nat} (ha : ∀ p ∈ a, p.Good) (hb : ∀ p ∈ b, p.Good) (wa : was a = n) (wb : was b = n) : (∀ p ∈ trl first a b, p.Good) ∧ was (trl first a b) = comes b ∧ plen (trl first a b) = plen a := by
  obtain ⟨X, hX⟩ := good_opr ha wa
  obtain ⟨Y, hY⟩ := good_opr hb wb
  have h := trl_opr (first := first) hX hY
  exact ⟨h.arg, by rw [h.sizes.1, hY.sizes.2], tr_plen h hX hY⟩
/-- What Apply takes is an operation over runes. -/
theorem aok_opr {P Q : List Int} {l : List PT} (hA : U.AllR (P ++ Q)) (hg : ∀ p ∈ l, p.Good) (hw : wasN l = bl Q) (hk : aok (U.encs (P ++ Q)) (bl P) l = true) : ∃ X, OpR l X Q := by
  induction l generalizing P Q with
  | nil =>
    rw [wasN] at hw
    have : Q = [] := by
      cases Q with
      | nil => rfl
      | cons q Q => have := bl_pos (rs := q :: Q) (by simp); omega
    subst this
    exact ⟨_, .nil⟩
  | cons p l ih =>
    have hp := hg p (by simp)
    have hl : ∀ q ∈ l, q.Good := fun q hq => hg q (by simp [hq])
    rw [aok, Bool.and_eq_true, Bool.and_eq_true] at hk
    obtain ⟨⟨-, hk1⟩, hk2⟩ := hk
    rw [wasN] at hw
    have cut : ∀ m : Nat, 0 < m → p.ext = m → ∃ d q, Q = d ++ q ∧ bl d = m ∧ d ≠ [] := by
      intro m hm he
      rw [he] at hk1 hw
      rw [edg_redg', redg_iff hA (by rw [bl_append]; omega)] at hk1
      obtain ⟨p2, q2, e2, hb2⟩ := hk1
      rcases List.append_eq_append_iff.1 e2 with ⟨d, rfl, hq⟩ | ⟨d, rfl, -⟩
      · rw [bl_append] at hb2
        exact ⟨d, q2, hq, by omega, fun e => by subst e; simp at hb2; omega⟩
      · rw [bl_append] at hb2
        omega
    rcases hp.1.cases with ⟨b, hb, rfl⟩ | ⟨m, hm, rfl⟩ | ⟨m, hm, rfl⟩
    · obtain ⟨rs, h1, h2, rfl⟩ := opR_put hp
      have he : (⟨0, 0, U.encs rs⟩ : PT).ext = 0 := rfl
      rw [he] at hk2 hw
      obtain ⟨X, hX⟩ := ih hA hl (by omega) hk2
      exact ⟨_, .put h1 h2 hX⟩
    · have he : (⟨0, (m : Int), []⟩ : PT).ext = m := by simp [PT.ext]
      obtain ⟨d, q, rfl, hd, hn⟩ := cut m hm he
      rw [he] at hk2 hw
      rw [← List.append_assoc] at hA hk2
      obtain ⟨X, hX⟩ := ih (P := P ++ d) hA hl (by rw [bl_append] at hw; omega) (by rw [bl_append, hd]; exact hk2)
      have := OpR.drop hn hX
      rw [hd] at this
      exact ⟨_, this⟩
    · have he : (⟨(m : Int), 0, []⟩ : PT).ext = m := by simp [PT.ext]
      obtain ⟨d, q, rfl, hd, hn⟩ := cut m hm he
      rw [he] at hk2 hw
      rw [← List.append_assoc] at hA hk2
      obtain ⟨X, hX⟩ := ih (P := P ++ d) hA hl (by rw [bl_append] at hw; omega) (by rw [bl_append, hd]; exact hk2)
      have := OpR.keep hn hX
      rw [hd] at this
      exact ⟨_, this⟩
theorem apc_chk {l : List PT} {s : U.Bs} (h : apc l s = 0) : chk l s.length = 0 ∧ aok s 0 l = true := by
  unfold apc at h
  split at h
  · rename_i h1
    refine ⟨h1, ?_⟩
    split at h
    · assumption
    · exact absurd h (by decide)
  · rename_i h1; exact absurd h h1
theorem apc_opr {l : List PT} {R : List Int} (hR : U.AllR R) (h : apc l (U.encs R) = 0) : ∃ X, OpR l X R := by
  obtain ⟨h1, h2⟩ := apc_chk h
  obtain ⟨hg, hw⟩ := chk_was h1
  exact aok_opr (P := []) (Q := R) hR hg hw h2
/-- An entry: whose, which of theirs, what it does. -/
structure EN where
  who : Int
  id : Int
  op : List PT
/-- A server: all documents that there were, what was done, and what each was answered last. -/
structure SV where
  docs : List U.Bs
  log : List EN
  last : Int → Option (Int × Int)
  tk : Nat
def SV.doc (S : SV) : U.Bs := (S.docs[S.log.length]?).getD []
def folt (op : List PT) (l : List EN) : List PT := l.foldl (fun o e => trl false o e.op) op
theorem folt_nil (op : List PT) : folt op [] = op := rfl
theorem folt_snoc (op : List PT) (l : List EN) (e : EN) : folt op (l ++ [e]) = trl false (folt op l) e.op := by unfold folt; rw [List.foldl_append]; rfl
noncomputable def SV.does (S : SV) (who id rev : Int) (op : List PT) : Int × SV :=
  if rev < 0 ∨ (S.log.length : Int) < rev then (2, S)
  else if 300 ≤ S.log.length then (4, S)
  else if chk op (((S.docs[rev.toNat]?).getD []).length : Nat) ≠ 0 then (chk op (((S.docs[rev.toNat]?).getD []).length : Nat), S)
  else if apc (folt op (S.log.drop rev.toNat)) S.doc ≠ 0 then (apc (folt op (S.log.drop rev.toNat)) S.doc, S)
  else if 2000 < (apr (folt op (S.log.drop rev.toNat)) S.doc).length then (12, S)
  else (0, ⟨S.docs ++ [apr (folt op (S.log.drop rev.toNat)) S.doc], S.log ++ [⟨who, id, folt op (S.log.drop rev.toNat)⟩], S.last, S.tk⟩)
noncomputable def SV.fresh (S : SV) (who id rev : Int) (op : List PT) : Int × SV :=
  ((S.does who id rev op).1, { (S.does who id rev op).2 with last := fun x => if x = who then some (id, (S.does who id rev op).1) else S.last x, tk := S.tk + 1 })
noncomputable def SV.take (S : SV) (who id rev : Int) (op : List PT) : Int × SV :=
  match S.last who with
  | some (i, k) => if id < i then (8, S) else if id = i then (k, S) else S.fresh who id rev op
  | none => S.fresh who id rev op
/-- What holds of a server at all times. -/
structure SVok (S : SV) : Prop where
  len : S.docs.length = S.log.length + 1
  txt : ∀ d ∈ S.docs, ∃ R, U.AllR R ∧ d = U.encs R ∧ bl R ≤ 2000
  step : ∀ i e d d', S.log[i]? = some e → S.docs[i]? = some d → S.docs[i + 1]? = some d' → apc e.op d = 0 ∧ apr e.op d = d'
theorem SVok.at_ {S : SV} (h : SVok S) {i : Nat} (hi : i ≤ S.log.length) : ∃ R, S.docs[i]? = some (U.encs R) ∧ U.AllR R ∧ bl R ≤ 2000 := by
  have hl : i < S.docs.length := by rw [h.len]; omega
  obtain ⟨R, h1, h2, h3⟩ := h.txt _ (List.getElem_mem hl)
  exact ⟨R, by rw [List.getElem?_eq_getElem hl, h2], h1, h3⟩
theorem SVok.doc_ {S : SV} (h : SVok S) : ∃ R, S.doc = U.encs R ∧ U.AllR R ∧ bl R ≤ 2000 ∧ S.docs[S.log.length]? = some (U.encs R) := by
  obtain ⟨R, h1, h2, h3⟩ := h.at_ (Nat.le_refl _)
  exact ⟨R, by unfold SV.doc; rw [h1]; rfl, h2, h3, h1⟩
/-- An entry: over the document that there was. -/
theorem SVok.entry {S : SV} (h : SVok S) {i : Nat} {e : EN} (he : S.log[i]? = some e) : ∃ R X, S.docs[i]? = some (U.encs R) ∧ U.AllR R ∧ bl R ≤ 2000 ∧ OpR e.op X R ∧ S.docs[i + 1]? = some (U.encs (rap X R)) ∧ bl (rap X R) ≤ 2000 ∧ U.AllR (rap X R) := by
  have hi : i < S.log.length := (List.getElem?_eq_some_iff.1 he).1
  obtain ⟨R, h1, h2, h3⟩ := h.at_ (i := i) (by omega)
  obtain ⟨R', k1, k2, k3⟩ := h.at_ (i := i + 1) (by omega)
  obtain ⟨a1, a2⟩ := h.step i e _ _ he h1 k1
  obtain ⟨X, hX⟩ := apc_opr h2 a1
  have e1 : U.encs R' = U.encs (rap X R) := by rw [← a2, (hX.apply h2).2]
  have e2 : bl (rap X R) = bl R' := by unfold bl; rw [e1]
  exact ⟨R, X, h1, h2, h3, hX, by rw [k1, e1], by omega, rap_all hX.allP h2⟩
theorem SVok.good {S : SV} (h : SVok S) {i : Nat} {e : EN} (he : S.log[i]? = some e) : (∀ p ∈ e.op, p.Good) ∧ was e.op = (((S.docs[i]?).getD []).length : Nat) ∧ comes e.op = (((S.docs[i + 1]?).getD []).length : Nat) ∧ plen e.op ≤ 2000 ∧ was e.op ≤ 2000 ∧ 0 ≤ was e.op ∧ comes e.op ≤ 2000 := by
  obtain ⟨R, X, h1, h2, h3, h4, h5, h6, h7⟩ := h.entry he
  obtain ⟨s1, s2⟩ := h4.sizes
  have hb := h4.bounds
  rw [h1, h5]
  exact ⟨h4.arg, s1, s2, by omega, by omega, by omega, by omega⟩
/-- An operation, over what was done meanwhile. -/
theorem folt_good {S : SV} (h : SVok S) {op : List PT} {r : Nat} (hc : chk op (((S.docs[r]?).getD []).length : Nat) = 0) (k : Nat) (hk : r + k ≤ S.log.length) :
    (∀ p ∈ folt op ((S.log.drop r).take k), p.Good) ∧ was (folt op ((S.log.drop r).take k)) = (((S.docs[r + k]?).getD []).length : Nat) ∧ plen (folt op ((S.log.drop r).take k)) = plen op := by
  induction k with
  | zero =>
    rw [List.take_zero, folt_nil]
    exact ⟨chk_good hc, chk_sum hc, rfl⟩
  | succ k ih =>
    obtain ⟨i1, i2, i3⟩ := ih (by omega)
    have hl : r + k < S.log.length := by omega
    have e1 : (S.log.drop r).take (k + 1) = (S.log.drop r).take k ++ [S.log[r + k]] := by
      rw [List.take_succ_eq_append_getElem (by rw [List.length_drop]; omega)]
      congr 2
      rw [List.getElem_drop]
    obtain ⟨g1, g2, g3, -⟩ := h.good (List.getElem?_eq_getElem hl)
    rw [e1, folt_snoc]
    obtain ⟨t1, t2, t3⟩ := trl_good (first := false) i1 g1 i2 g2
    exact ⟨t1, by rw [t2, g3, Nat.add_assoc], by rw [t3, i3]⟩
/-- .. and what is wrong with a transform of it: nothing. -/
theorem trc_good {a b : List PT} {n : Nat} (ha : ∀ p ∈ a, p.Good) (hb : ∀ p ∈ b, p.Good) (wa : was a = n) (wb : was b = n) (hn : n ≤ 100000) : trc a b = 0 := by
  have w1 : wrap64 (n : Int) = n := wrap_id (by omega) (by omega)
  have c1 := chk_of ha wa
  have c2 := chk_of hb wb
  unfold trc chk2
  rw [wa, wb, w1, c1, c2]
  simp
theorem mo_good {l : List PT} (hg : ∀ p ∈ l, p.Good) (hw : was l ≤ 100000) (hp : plen l ≤ 100000) : Mo l l.length := by
  have h1 := parts_le (fun p hp => (hg p hp).1)
  exact ⟨fun p hp => by have := plen_mem' hp; omega, by omega, fun _ => by omega⟩
theorem getElem?_snoc {α : Type} {l : List α} {x y : α} {i : Nat} (h : (l ++ [x])[i]? = some y) : l[i]? = some y ∨ i = l.length ∧ y = x := by
  rcases Nat.lt_trichotomy i l.length with hi | hi | hi
  · rw [List.getElem?_append_left hi] at h; exact .inl h
  · subst hi; rw [List.getElem?_append_right (Nat.le_refl _)] at h; simp at h; exact .inr ⟨rfl, h.symm⟩
  · rw [List.getElem?_eq_none (by simp; omega)] at h; cases h
/-- What is done keeps it so. -/
theorem SVok.does {S : SV} (h : SVok S) (who id rev : Int) (op : List PT) : SVok (S.does who id rev op).2 := by
  unfold SV.does
  split
  · exact h
  split
  · exact h
  split
  · exact h
  split
  · exact h
  split
  · exact h
  rename_i h1 h2 h3 h4 h5
  have h4 := Decidable.not_not.1 h4
  generalize folt op (S.log.drop rev.toNat) = o at *
  obtain ⟨R, r1, r2, r3, r4⟩ := h.doc_
  rw [r1] at h4 h5 ⊢
  obtain ⟨X, hX⟩ := apc_opr r2 h4
  obtain ⟨a1, a2⟩ := hX.apply r2
  rw [a2] at h5 ⊢
  refine ⟨by simp [h.len], fun d hd => ?_, fun i e d d' he hd hd' => ?_⟩
  · rcases List.mem_append.1 hd with hd | hd
    · exact h.txt d hd
    · obtain rfl := List.mem_singleton.1 hd
      exact ⟨_, rap_all hX.allP r2, rfl, by have : (U.encs (rap X R)).length = bl (rap X R) := rfl; omega⟩
  · dsimp only at he hd hd'
    have hl := h.len
    rcases getElem?_snoc he with he | ⟨rfl, rfl⟩
    · have hi := (List.getElem?_eq_some_iff.1 he).1
      rw [List.getElem?_append_left (by omega)] at hd hd'
      exact h.step i e d d' he hd hd'
    · rw [List.getElem?_append_left (by omega), r4] at hd
      cases hd
      rw [List.getElem?_append_right (by omega), hl] at hd'
      simp at hd'
      exact ⟨a1, by rw [a2, hd']⟩
theorem SVok.take {S : SV} (h : SVok S) (who id rev : Int) (op : List PT) : SVok (S.take who id rev op).2 := by
  have hf : SVok (S.fresh who id rev op).2 := by
    have := h.does who id rev op
    exact ⟨this.len, this.txt, this.step⟩
  unfold SV.take
  split
  · split
    · exact h
    · split
      · exact h
      · exact hf
  · exact hf
/-- A server of a text. -/
def SV.new (s : U.Bs) : SV := ⟨[s], [], fun _ => none, 0⟩
theorem SVok.new {R : List Int} (h : U.AllR R) (hb : bl R ≤ 2000) : SVok (SV.new (U.encs R)) :=
  ⟨rfl, fun d hd => by obtain rfl := List.mem_singleton.1 hd; exact ⟨R, h, rfl, hb⟩, fun i e d d' he => by simp [SV.new] at he⟩
end Go.Proofs.YtdgdajnbkfmijaaGreatDoor
/- Both ways make the same: plain. -/
namespace Go.Proofs.YtdgdajnbkfmijaaGreatDoor
open Go.RowKit
set_option maxRecDepth 100000
theorem encs_inj {R S : List Int} (hR : U.AllR R) (hS : U.AllR S) (h : U.encs R = U.encs S) : R = S := by
  have h1 := U.sp_encs hR
  have h2 := U.sp_encs hS
  rw [h] at h1
  exact (h1.unique h2).1
theorem OpR.rap_norm {l : List PT} {X : List (RU Int)} {R : List Int} (h : OpR l X R) : rap (rnm 0 X) R = rap X R := by
  rw [rnm_rap 0 X R (by have := h.was_; omega)]; rfl
/-- Both ways make the same. -/
theorem meet_eq {la lb : List PT} {X Y : List (RU Int)} {R : List Int} {first : Bool} (ha : OpR la X R) (hb : OpR lb Y R) :
    rap (rnm 0 (rtr (!first) (rnm 0 Y) (rnm 0 X))) (rap X R) = rap (rnm 0 (rtr first (rnm 0 X) (rnm 0 Y))) (rap Y R) := by
  have h1 := ha.norm_
  have h2 := hb.norm_
  obtain ⟨m1, m2, m3⟩ := rtr_meet (first := first) (X := rnm 0 X) (Y := rnm 0 Y) (R := R) h1.was_ h2.was_
  rw [ha.rap_norm, hb.rap_norm] at m1
  have l1 := rap_len ha.was_
  have l2 := rap_len hb.was_
  have w1 := (rnm_was 0 X).2
  have w2 := (rnm_was 0 Y).2
  rw [rnm_rap 0 _ _ (by omega), rnm_rap 0 _ _ (by omega)]
  exact m1.symm
end Go.Proofs.YtdgdajnbkfmijaaGreatDoor
/- A client in plain Lean: what it has, and what it makes of what it is told. -/
namespace Go.Proofs.YtdgdajnbkfmijaaGreatDoor
open Go.RowKit
set_option maxRecDepth 100000
open Classical in
/-- The runes of a text. -/
noncomputable def dec (s : U.Bs) : List Int := if h : ∃ R, U.AllR R ∧ s = U.encs R then Classical.choose h else []
theorem dec_encs {R : List Int} (h : U.AllR R) : dec (U.encs R) = R := by
  have hx : ∃ S, U.AllR S ∧ U.encs R = U.encs S := ⟨R, h, rfl⟩
  unfold dec
  rw [dif_pos hx]
  obtain ⟨h1, h2⟩ := Classical.choose_spec hx
  exact (encs_inj h h1 h2).symm
/-- What an operation makes of runes. -/
noncomputable def rpl (b : List PT) (R : List Int) : List Int := dec (apr b (U.encs R))
theorem rpl_eq {b : List PT} {X : List (RU Int)} {R : List Int} (h : OpR b X R) (hR : U.AllR R) : rpl b R = rap X R := by
  unfold rpl
  rw [(h.apply hR).2, dec_encs (rap_all h.allP hR)]
/-- What Compose makes. -/
def cml (a b : List PT) : List PT := urun (cm (expand a) (expand b))
theorem cml_opr {la lb : List PT} {X Y : List (RU Int)} {R : List Int} (hA : OpR la X R) (hB : OpR lb Y (rap X R)) : OpR (cml la lb) (rnm 0 (rcm X Y)) R := by
  have hy : rwas Y = rlen X := by rw [hB.was_, rap_len hA.was_]
  have e2 : cm (expand la) (expand lb) = bexp (rcm X Y) R := by rw [hA.expand_, hB.expand_, cm_bexp hA.was_ hy]
  have hl : rwas (rcm X Y) = R.length := by rw [(rcm_was hy).1, hA.was_]
  have hp : AllP (rcm X Y) := fun r hr => by
    rcases rcm_mem hr with h | h
    · exact hA.allP r h
    · exact hB.allP r h
  unfold cml
  rw [e2]
  exact urun_bexp hl hp
theorem cml_rap {la lb : List PT} {X Y : List (RU Int)} {R : List Int} (hA : OpR la X R) (hB : OpR lb Y (rap X R)) : rap (rnm 0 (rcm X Y)) R = rap Y (rap X R) := by
  have hy : rwas Y = rlen X := by rw [hB.was_, rap_len hA.was_]
  rw [rnm_rap 0 _ _ (by rw [(rcm_was hy).1, hA.was_]; omega), List.drop_zero, rcm_rap hA.was_ hy]
/-- What a turn from one unit in another one makes, and tells. -/
noncomputable def tnc (R : List Int) (l : List PT) (u tu : Int) : List PT × Int :=
  if ¬ ((1 ≤ u ∧ u ≤ 3) ∧ (1 ≤ tu ∧ tu ≤ 3)) then ([], 1)
  else if chk l ((cnt R).of u) ≠ 0 then ([], chk l ((cnt R).of u))
  else (if (tnF R u tu Cn.zero 0 l).2 = 0 then (tnF R u tu Cn.zero 0 l).1 else [], (tnF R u tu Cn.zero 0 l).2)
theorem tnR_tnc (R : List Int) (l : List PT) (u tu : Int) : TnR R l u tu (tnc R l u tu).1 (tnc R l u tu).2 := by
  unfold tnc
  refine ⟨fun h => ?_, fun h hc => ?_, fun h hc => ?_⟩
  · rw [if_pos h]; exact ⟨rfl, rfl⟩
  · rw [if_neg (fun h' => h' h), if_pos hc]; exact ⟨rfl, rfl⟩
  · rw [if_neg (fun h' => h' h), if_neg (fun h' => h' hc)]; exact ⟨rfl, rfl⟩
theorem tnR_is {R : List Int} {l o : List PT} {u tu k : Int} (h : TnR R l u tu o k) : o = (tnc R l u tu).1 ∧ k = (tnc R l u tu).2 := h.unique (tnR_tnc R l u tu)
/-- From bytes in another unit and back: nothing is lost. -/
theorem tnF_there {R P Q : List Int} {u : Int} {l : List PT} {X : List (RU Int)} (hu : 1 ≤ u ∧ u ≤ 3) (hR : R = P ++ Q) (h : OpR l X Q) :
    ∃ l', tnF R 1 u (cnt P) ((cnt P).of 1) l = (l', 0) ∧ tnF R u 1 (cnt P) ((cnt P).of u) l' = (l, 0) ∧ (∀ p ∈ l', p.Good) ∧ was l' = (cnt Q).of u ∧ plen l' = plen l ∧ l'.length = l.length := by
  induction h generalizing P with
  | nil => exact ⟨[], rfl, rfl, fun p hp => by simp at hp, by rw [cnt_nil, of_zero]; rfl, rfl, rfl⟩
  | @put rs l X Q h1 h2 h3 ih =>
    obtain ⟨l', i1, i2, i3, i4, i5, i6⟩ := ih hR
    have hA : ∀ v : Int, 1 ≤ v ∧ v ≤ 3 → AheadR v ((cnt P).of v + ((⟨0, 0, U.encs rs⟩ : PT).keep + (⟨0, 0, U.encs rs⟩ : PT).drop)) R (cnt P) (erV 0) := fun v hv => Pl.ahead hv ⟨P, Q, hR, by dsimp only; omega, rfl⟩
    have e0 : ∀ v : Int, (cnt P).of v + ((⟨0, 0, U.encs rs⟩ : PT).keep + (⟨0, 0, U.encs rs⟩ : PT).drop) = (cnt P).of v := fun v => by dsimp only; omega
    have hg : (⟨0, 0, U.encs rs⟩ : PT).Good := ⟨PT.arg_put (encs_ne h1), rs, U.sp_encs h2⟩
    refine ⟨⟨0, 0, U.encs rs⟩ :: l', ?_, ?_, ?_, ?_, ?_, ?_⟩
    · rw [tnF_step (hA 1 (by decide)), tnP_put, e0, i1]
    · rw [tnF_step (hA u hu), tnP_put, e0, i2]
    · intro p hp
      rcases List.mem_cons.1 hp with rfl | hp
      · exact hg
      · exact i3 p hp
    · rw [was, i4]; dsimp only; omega
    · rw [plen, plen, i5]
    · rw [List.length_cons, List.length_cons, i6]
  | @keep d l X Q h1 h3 ih =>
    obtain ⟨l', i1, i2, i3, i4, i5, i6⟩ := ih (P := P ++ d) (by rw [hR, List.append_assoc])
    have hd0 := bl_pos h1
    have hn : 0 < (cnt d).of u := by
      have := of_len d hu
      have := List.length_pos_iff.2 h1
      omega
    obtain ⟨n, hn'⟩ := Int.eq_ofNat_of_zero_le (show 0 ≤ (cnt d).of u by omega)
    have hA : ∀ (v : Int) (p : PT), 1 ≤ v ∧ v ≤ 3 → p.keep + p.drop = (cnt d).of v → AheadR v ((cnt P).of v + (p.keep + p.drop)) R (cnt (P ++ d)) (erV 0) := fun v p hv hp => Pl.ahead hv ⟨P ++ d, Q, by rw [hR, List.append_assoc], by rw [cnt_app_of, hp], rfl⟩
    refine ⟨⟨(cnt d).of u, 0, []⟩ :: l', ?_, ?_, ?_, ?_, ?_, ?_⟩
    · rw [tnF_step (hA 1 _ (by decide) (by rw [of_one_bl]; simp)), tnP_keep hd0]
      have e1 : (cnt P).of 1 + ((⟨(bl d : Int), 0, []⟩ : PT).keep + (⟨(bl d : Int), 0, []⟩ : PT).drop) = (cnt (P ++ d)).of 1 := by rw [cnt_app_of, of_one_bl d]; simp
      rw [e1, i1, cnt_app_of]
      simp
      try omega
    · rw [hn', tnF_step (hA u _ hu (by rw [hn']; simp)), tnP_keep (by omega)]
      have e1 : (cnt P).of u + ((⟨(n : Int), 0, []⟩ : PT).keep + (⟨(n : Int), 0, []⟩ : PT).drop) = (cnt (P ++ d)).of u := by rw [cnt_app_of, hn']; simp
      rw [show ((n : Nat) : Int) = Int.ofNat n from rfl] at e1 ⊢
      rw [e1, i2, cnt_app_of, of_one_bl d]
      simp
      try omega
    · intro p hp
      rcases List.mem_cons.1 hp with rfl | hp
      · exact ⟨PT.arg_keep hn, [], sp_nil⟩
      · exact i3 p hp
    · rw [was, i4, cnt_app_of]; dsimp only; try omega
    · rw [plen, plen, i5]
    · rw [List.length_cons, List.length_cons, i6]
  | @drop d l X Q h1 h3 ih =>
    obtain ⟨l', i1, i2, i3, i4, i5, i6⟩ := ih (P := P ++ d) (by rw [hR, List.append_assoc])
    have hd0 := bl_pos h1
    have hn : 0 < (cnt d).of u := by
      have := of_len d hu
      have := List.length_pos_iff.2 h1
      omega
    obtain ⟨n, hn'⟩ := Int.eq_ofNat_of_zero_le (show 0 ≤ (cnt d).of u by omega)
    have hA : ∀ (v : Int) (p : PT), 1 ≤ v ∧ v ≤ 3 → p.keep + p.drop = (cnt d).of v → AheadR v ((cnt P).of v + (p.keep + p.drop)) R (cnt (P ++ d)) (erV 0) := fun v p hv hp => Pl.ahead hv ⟨P ++ d, Q, by rw [hR, List.append_assoc], by rw [cnt_app_of, hp], rfl⟩
    refine ⟨⟨0, (cnt d).of u, []⟩ :: l', ?_, ?_, ?_, ?_, ?_, ?_⟩
    · rw [tnF_step (hA 1 _ (by decide) (by rw [of_one_bl]; simp)), tnP_drop hd0]
      have e1 : (cnt P).of 1 + ((⟨0, (bl d : Int), []⟩ : PT).keep + (⟨0, (bl d : Int), []⟩ : PT).drop) = (cnt (P ++ d)).of 1 := by rw [cnt_app_of, of_one_bl d]; simp
      rw [e1, i1, cnt_app_of]
      simp
      try omega
    · rw [hn', tnF_step (hA u _ hu (by rw [hn']; simp)), tnP_drop (by omega)]
      have e1 : (cnt P).of u + ((⟨0, (n : Int), []⟩ : PT).keep + (⟨0, (n : Int), []⟩ : PT).drop) = (cnt (P ++ d)).of u := by rw [cnt_app_of, hn']; simp
      rw [show ((n : Nat) : Int) = Int.ofNat n from rfl] at e1 ⊢
      rw [e1, i2, cnt_app_of, of_one_bl d]
      simp
      try omega
    · intro p hp
      rcases List.mem_cons.1 hp with rfl | hp
      · exact ⟨PT.arg_drop hn, [], sp_nil⟩
      · exact i3 p hp
    · rw [was, i4, cnt_app_of]; dsimp only; try omega
    · rw [plen, plen, i5]
    · rw [List.length_cons, List.length_cons, i6]
/-- An operation in bytes, by another unit: it comes, and does the same. -/
theorem tnR_there {R : List Int} {u k : Int} {l o : List PT} {X : List (RU Int)} (hu : 1 ≤ u ∧ u ≤ 3) (h : OpR l X R) (ht : TnR R l 1 u o k) : k = 0 ∧ TnR R o u 1 l 0 ∧ plen o = plen l ∧ o.length = l.length := by
  obtain ⟨l', t1, t2, t3, t4, t5, t6⟩ := tnF_there (R := R) (P := []) (Q := R) hu rfl h
  have z : ((cnt ([] : List Int)).of u) = 0 := by rw [cnt_nil, of_zero]
  have z1 : ((cnt ([] : List Int)).of 1) = 0 := by rw [cnt_nil, of_zero]
  rw [z1, cnt_nil] at t1
  rw [z, cnt_nil] at t2
  have hc : chk l ((cnt R).of 1) = 0 := by rw [of_one_bl]; exact h.chk_
  obtain ⟨e1, e2⟩ := ht.2.2 ⟨by decide, hu⟩ hc
  rw [t1] at e1 e2
  dsimp only at e1 e2
  subst e1
  rw [if_pos rfl] at e2
  subst e2
  refine ⟨rfl, ⟨fun h' => absurd ⟨hu, by decide⟩ h', fun _ h' => absurd (chk_of t3 t4) h', fun _ _ => ?_⟩, t5, t6⟩
  rw [t2]
  exact ⟨rfl, rfl⟩
/-- Two operations over one text, each over what the other one makes: both ways make the same. -/
theorem trl_meet {a b : List PT} {X Y : List (RU Int)} {R : List Int} (first : Bool) (ha : OpR a X R) (hb : OpR b Y R) :
    ∃ X' Y', OpR (trl first a b) X' (rap Y R) ∧ OpR (trl (!first) b a) Y' (rap X R) ∧ rap X' (rap Y R) = rap Y' (rap X R) ∧ plen (trl first a b) = plen a ∧ plen (trl (!first) b a) = plen b := by
  have h1 := trl_opr (first := first) ha hb
  have h2 := trl_opr (first := !first) hb ha
  exact ⟨_, _, h1, h2, (meet_eq (first := first) ha hb).symm, tr_plen h1 ha hb, tr_plen h2 hb ha⟩
/-- A client. -/
structure CV where
  who : Int
  unit : Int
  doc : List Int
  seen : List Int
  rev : Nat
  id : Int
  way : List PT
  waits : List PT
  has : Bool
  more : Bool
  dropped : Int
/-- What it does of its own. -/
noncomputable def CV.edit (c : CV) (l : List PT) : Int × CV :=
  if 60 < l.length ∨ ∃ p ∈ l, 200 < p.put.length then (4, c)
  else if (tnc c.doc l c.unit 1).2 ≠ 0 then ((tnc c.doc l c.unit 1).2, c)
  else if 2000 < comes (tnc c.doc l c.unit 1).1 then (12, c)
  else (0, { c with
    doc := rpl (tnc c.doc l c.unit 1).1 c.doc
    id := if c.has then c.id else c.id + 1
    way := if c.has then c.way else (tnc c.doc l c.unit 1).1
    has := true
    waits := if c.has then (if c.more then cml c.waits (tnc c.doc l c.unit 1).1 else (tnc c.doc l c.unit 1).1) else c.waits
    more := c.has })
/-- Its own comes back. -/
noncomputable def CV.own (c : CV) (e : EN) : CV :=
  { c with seen := rpl e.op c.seen, rev := c.rev + 1, way := c.waits, has := c.more, waits := [], more := false, id := if c.more then c.id + 1 else c.id }
/-- What the server did, over what was on its way. -/
def CV.past (c : CV) (e : EN) : List PT := if c.has then trl true e.op c.way else e.op
def CV.over (c : CV) (e : EN) : List PT := if c.more then trl true (c.past e) c.waits else c.past e
/-- Another one's. -/
noncomputable def CV.other (c : CV) (e : EN) : CV :=
  { c with
    seen := rpl e.op c.seen
    rev := c.rev + 1
    way := if c.has then trl false c.way e.op else c.way
    waits := if c.more then trl false c.waits (c.past e) else c.waits
    doc := rpl (c.over e) c.doc }
def CV.isOwn (c : CV) (e : EN) : Prop := e.who = c.who ∧ c.has = true ∧ e.id = c.id
instance (c : CV) (e : EN) : Decidable (c.isOwn e) := by unfold CV.isOwn; infer_instance
noncomputable def CV.take (c : CV) (rev : Int) (e : EN) : CV := if rev ≠ c.rev then c else if c.isOwn e then c.own e else c.other e
/-- What is on its way is given up. -/
def CV.refused (c : CV) (id : Int) : CV :=
  if c.has = true ∧ id = c.id then { c with doc := c.seen, has := false, more := false, way := [], waits := [], dropped := c.dropped + 1 } else c
/-- What holds of a client behind T operations of its own. -/
structure COk (T : Int) (c : CV) : Prop where
  u : 1 ≤ c.unit ∧ c.unit ≤ 3
  all : U.AllR c.seen
  sz : bl c.seen ≤ 2000
  no : c.has = false → c.more = false ∧ c.way = [] ∧ c.doc = c.seen
  nm : c.more = false → c.waits = []
  yes : c.has = true → ∃ X, OpR c.way X c.seen ∧ plen c.way ≤ 2000 ∧ (c.more = false → c.doc = rap X c.seen) ∧ (c.more = true → ∃ Y, OpR c.waits Y (rap X c.seen) ∧ plen c.waits ≤ 2000 ∧ c.doc = rap Y (rap X c.seen))
  id1 : 0 ≤ c.id ∧ c.id + (if c.more then 1 else 0) ≤ T
  dr : 0 ≤ c.dropped ∧ c.dropped + (if c.has then 1 else 0) ≤ T
theorem COk.doc_ {T : Int} {c : CV} (h : COk T c) : U.AllR c.doc ∧ bl c.doc ≤ 6000 := by
  have h1 := h.sz
  cases hh : c.has
  · obtain ⟨-, -, e⟩ := h.no hh
    rw [e]
    exact ⟨h.all, by omega⟩
  · obtain ⟨X, hX, hp, hn, hy⟩ := h.yes hh
    have b1 := hX.bounds
    have a1 := rap_all hX.allP h.all
    cases hm : c.more
    · rw [hn hm]; exact ⟨a1, by omega⟩
    · obtain ⟨Y, hY, hq, e⟩ := hy hm
      have b2 := hY.bounds
      rw [e]; exact ⟨rap_all hY.allP a1, by omega⟩
theorem COk.mono {T T' : Int} {c : CV} (h : COk T c) (ht : T ≤ T') : COk T' c :=
  ⟨h.u, h.all, h.sz, h.no, h.nm, h.yes, ⟨h.id1.1, by have := h.id1.2; omega⟩, ⟨h.dr.1, by have := h.dr.2; omega⟩⟩
/-- What an edit is, if nothing is wrong. -/
theorem COk.turned {T : Int} {c : CV} (h : COk T c) {l : List PT} (hk : (tnc c.doc l c.unit 1).2 = 0) : ∃ X, OpR (tnc c.doc l c.unit 1).1 X c.doc ∧ plen (tnc c.doc l c.unit 1).1 = plen l ∧ (tnc c.doc l c.unit 1).1.length = l.length := by
  have ht := tnR_tnc c.doc l c.unit 1
  rw [hk] at ht
  obtain ⟨⟨X, hX⟩, h2, h3, -⟩ := tnR_opr h.u ht
  exact ⟨X, hX, h2, h3⟩
theorem COk.edit {T : Int} {c : CV} (h : COk T c) (l : List PT) : COk (T + 1) (c.edit l).2 := by
  unfold CV.edit
  split
  · exact h.mono (by omega)
  split
  · exact h.mono (by omega)
  split
  · exact h.mono (by omega)
  rename_i h1 h2 h3
  have h2 := Decidable.not_not.1 h2
  obtain ⟨Z, hZ, -, -⟩ := h.turned h2
  obtain ⟨hA, hB⟩ := h.doc_
  generalize (tnc c.doc l c.unit 1).1 = b at *
  have hpc := plen_comes hZ.args
  have hpl : plen b ≤ 2000 := by omega
  rw [rpl_eq hZ hA]
  have hid := h.id1
  have hdr := h.dr
  refine ⟨h.u, h.all, h.sz, fun e => by simp at e, fun e => ?_, fun _ => ?_, ?_, ?_⟩
  · dsimp only at e ⊢
    rw [e]
    exact h.nm (h.no e).1
  · dsimp only
    cases hh : c.has
    · obtain ⟨hm, hw, hd⟩ := h.no hh
      rw [hd] at hZ
      exact ⟨Z, by simpa using hZ, by simpa using hpl, fun _ => by rw [hd], fun e => by simp at e⟩
    · obtain ⟨X, hX, hp, hn, hy⟩ := h.yes hh
      refine ⟨X, by simpa using hX, by simpa using hp, fun e => by simp at e, fun _ => ?_⟩
      cases hm : c.more
      · rw [hn hm] at hZ
        exact ⟨Z, by simpa using hZ, by simpa using hpl, by rw [hn hm]⟩
      · obtain ⟨Y, hY, hq, hd⟩ := hy hm
        rw [hd] at hZ
        have hC := cml_opr hY hZ
        have hR := cml_rap hY hZ
        refine ⟨_, by simpa using hC, ?_, by rw [hR, hd]⟩
        have e1 := hZ.sizes.2
        have e2 := hC.sizes.2
        rw [hR] at e2
        have := plen_comes hC.args
        simp only [if_true]
        omega
  · dsimp only
    cases hh : c.has <;> simp <;> (cases hm : c.more <;> simp [hm] at hid) <;> omega
  · dsimp only
    cases hh : c.has <;> simp [hh] at hdr ⊢ <;> omega
/-- What is taken: over what was seen. -/
structure Fit_ (c : CV) (e : EN) (Z : List (RU Int)) : Prop where
  op : OpR e.op Z c.seen
  sz : bl (rap Z c.seen) ≤ 2000
  own : c.isOwn e → e.op = c.way
theorem COk.own_ {T : Int} {c : CV} {e : EN} {Z : List (RU Int)} (h : COk T c) (hf : Fit_ c e Z) (ho : c.isOwn e) : COk T (c.own e) ∧ (c.own e).seen = rap Z c.seen := by
  have hh := ho.2.1
  obtain ⟨X, hX, hp, hn, hy⟩ := h.yes hh
  have hw := hf.own ho
  have hs := rpl_eq hf.op h.all
  have hs2 : rap X c.seen = rap Z c.seen := by rw [← rpl_eq hX h.all, ← hw, hs]
  rw [hs2] at hn hy
  have hid := h.id1
  have hdr := h.dr
  refine ⟨⟨h.u, ?_, ?_, fun e1 => ?_, fun _ => rfl, fun e1 => ?_, ?_, ?_⟩, hs⟩
  · show U.AllR (rpl e.op c.seen)
    rw [hs]; exact rap_all hf.op.allP h.all
  · show bl (rpl e.op c.seen) ≤ 2000
    rw [hs]; exact hf.sz
  · show false = false ∧ c.waits = [] ∧ c.doc = rpl e.op c.seen
    have e1 : c.more = false := e1
    exact ⟨rfl, h.nm e1, by rw [hs, hn e1]⟩
  · have e1 : c.more = true := e1
    obtain ⟨Y, hY, hq, hd⟩ := hy e1
    refine ⟨Y, ?_, hq, fun _ => ?_, fun e2 => by cases e2⟩
    · show OpR c.waits Y (rpl e.op c.seen)
      rw [hs]; exact hY
    · show c.doc = rap Y (rpl e.op c.seen)
      rw [hs]; exact hd
  · show 0 ≤ (if c.more then c.id + 1 else c.id) ∧ (if c.more then c.id + 1 else c.id) + (if false then 1 else 0) ≤ T
    cases hm : c.more <;> simp [hm] at hid ⊢ <;> omega
  · show 0 ≤ c.dropped ∧ c.dropped + (if c.more then 1 else 0) ≤ T
    rw [hh] at hdr
    cases hm : c.more <;> simp at hdr ⊢ <;> omega
/-- What the server did, over what is on the way, is over the document. -/
theorem COk.over_ {T : Int} {c : CV} {e : EN} {Z : List (RU Int)} (h : COk T c) (hf : Fit_ c e Z) :
    (∃ V, OpR (c.over e) V c.doc ∧ plen (c.over e) = plen e.op) ∧ (∀ X, c.has = true → OpR c.way X c.seen → ∃ V, OpR (c.past e) V (rap X c.seen) ∧ plen (c.past e) = plen e.op) ∧ COk T (c.other e) ∧ (c.other e).seen = rap Z c.seen := by
  have hs := rpl_eq hf.op h.all
  have hS : (c.other e).seen = rap Z c.seen := hs
  have hA : U.AllR (c.other e).seen := by rw [hS]; exact rap_all hf.op.allP h.all
  obtain ⟨dA, dB⟩ := h.doc_
  have pastX : ∀ X, c.has = true → OpR c.way X c.seen → ∃ V, OpR (c.past e) V (rap X c.seen) ∧ plen (c.past e) = plen e.op := fun X hh hX => by
    obtain ⟨V, W, h1, h2, h3, h4, h5⟩ := trl_meet true hf.op hX
    unfold CV.past
    rw [if_pos hh]
    exact ⟨V, h1, h4⟩
  cases hh : c.has
  · obtain ⟨hm, hw, hd⟩ := h.no hh
    have e1 : c.over e = e.op := by unfold CV.over CV.past; rw [hm, hh]; rfl
    refine ⟨⟨Z, by rw [e1, hd]; exact hf.op, by rw [e1]⟩, fun X e2 => absurd e2 (by simp), ⟨h.u, hA, by rw [hS]; exact hf.sz, fun _ => ⟨hm, ?_, ?_⟩, fun _ => ?_, fun e2 => ?_, h.id1, h.dr⟩, hS⟩
    · show (if c.has then trl false c.way e.op else c.way) = []
      rw [hh]; exact hw
    · show rpl (c.over e) c.doc = rpl e.op c.seen
      rw [e1, hd]
    · show (if c.more then trl false c.waits (c.past e) else c.waits) = []
      rw [hm]; exact h.nm hm
    · have e2 : c.has = true := e2
      rw [hh] at e2; cases e2
  · obtain ⟨X, hX, hp, hn, hy⟩ := h.yes hh
    obtain ⟨W, V, h1, h2, h3, h4, h5⟩ := trl_meet false hX hf.op
    have e1 : c.past e = trl true e.op c.way := by unfold CV.past; rw [if_pos hh]
    have h2 : OpR (c.past e) V (rap X c.seen) := by rw [e1]; exact h2
    have h5 : plen (c.past e) = plen e.op := by rw [e1]; exact h5
    have aX := rap_all hX.allP h.all
    cases hm : c.more
    · have hd := hn hm
      have e2 : c.over e = c.past e := by unfold CV.over; rw [hm]; rfl
      refine ⟨⟨V, by rw [e2, hd]; exact h2, by rw [e2, h5]⟩, fun X' _ hX' => pastX X' hh hX', ⟨h.u, hA, by rw [hS]; exact hf.sz, fun e3 => ?_, fun _ => ?_, fun _ => ⟨W, ?_, ?_, fun _ => ?_, fun e3 => ?_⟩, h.id1, h.dr⟩, hS⟩
      · have e3 : c.has = false := e3
        rw [hh] at e3; cases e3
      · show (if c.more then trl false c.waits (c.past e) else c.waits) = []
        rw [hm]; exact h.nm hm
      · show OpR (if c.has then trl false c.way e.op else c.way) W (rpl e.op c.seen)
        rw [hh, hs]; exact h1
      · show plen (if c.has then trl false c.way e.op else c.way) ≤ 2000
        rw [hh]; exact Nat.le_trans (Nat.le_of_eq h4) hp
      · show rpl (c.over e) c.doc = rap W (rpl e.op c.seen)
        rw [e2, hd, rpl_eq h2 aX, hs, h3]
      · have e3 : c.more = true := e3
        rw [hm] at e3; cases e3
    · obtain ⟨Y, hY, hq, hd⟩ := hy hm
      obtain ⟨W2, V2, g1, g2, g3, g4, g5⟩ := trl_meet false hY h2
      have e2 : c.over e = trl true (c.past e) c.waits := by unfold CV.over; rw [if_pos hm]
      have g2 : OpR (c.over e) V2 (rap Y (rap X c.seen)) := by rw [e2]; exact g2
      have g5 : plen (c.over e) = plen e.op := by rw [e2, ← h5]; exact g5
      refine ⟨⟨V2, by rw [hd]; exact g2, g5⟩, fun X' _ hX' => pastX X' hh hX', ⟨h.u, hA, by rw [hS]; exact hf.sz, fun e3 => ?_, fun e3 => ?_, fun _ => ⟨W, ?_, ?_, fun e3 => ?_, fun _ => ⟨W2, ?_, ?_, ?_⟩⟩, h.id1, h.dr⟩, hS⟩
      · have e3 : c.has = false := e3
        rw [hh] at e3; cases e3
      · have e3 : c.more = false := e3
        rw [hm] at e3; cases e3
      · show OpR (if c.has then trl false c.way e.op else c.way) W (rpl e.op c.seen)
        rw [hh, hs]; exact h1
      · show plen (if c.has then trl false c.way e.op else c.way) ≤ 2000
        rw [hh]; exact Nat.le_trans (Nat.le_of_eq h4) hp
      · have e3 : c.more = false := e3
        rw [hm] at e3; cases e3
      · show OpR (if c.more then trl false c.waits (c.past e) else c.waits) W2 (rap W (rpl e.op c.seen))
        rw [hm, hs, h3]; exact g1
      · show plen (if c.more then trl false c.waits (c.past e) else c.waits) ≤ 2000
        rw [hm]; exact Nat.le_trans (Nat.le_of_eq g4) hq
      · show rpl (c.over e) c.doc = rap W2 (rap W (rpl e.op c.seen))
        rw [hd, rpl_eq g2 (rap_all hY.allP aX), hs, h3, g3]
theorem COk.take {T : Int} {c : CV} {rev : Int} {e : EN} (h : COk T c) (hf : rev = c.rev → ∃ Z, Fit_ c e Z) : COk T (c.take rev e) ∧ (rev = c.rev → ∀ Z, Fit_ c e Z → (c.take rev e).seen = rap Z c.seen ∧ (c.take rev e).rev = c.rev + 1) := by
  unfold CV.take
  by_cases hr : rev = c.rev
  · obtain ⟨Z, hZ⟩ := hf hr
    rw [if_neg (fun h => h hr)]
    by_cases ho : c.isOwn e
    · rw [if_pos ho]
      exact ⟨(h.own_ hZ ho).1, fun _ Z' hZ' => ⟨(h.own_ hZ' ho).2, rfl⟩⟩
    · rw [if_neg ho]
      exact ⟨(h.over_ hZ).2.2.1, fun _ Z' hZ' => ⟨(h.over_ hZ').2.2.2, rfl⟩⟩
  · rw [if_pos hr]
    exact ⟨h, fun h' => absurd h' hr⟩
theorem COk.refused {T : Int} {c : CV} (h : COk T c) (id : Int) : COk T (c.refused id) := by
  unfold CV.refused
  split
  · rename_i hc
    have hid := h.id1
    have hdr := h.dr
    rw [hc.1] at hdr
    refine ⟨h.u, h.all, h.sz, fun _ => ⟨rfl, rfl, rfl⟩, fun _ => rfl, (fun e => by cases e), ?_, ?_⟩
    · dsimp only
      cases hm : c.more <;> simp [hm] at hid ⊢ <;> omega
    · dsimp only
      simp at hdr ⊢
      omega
  · exact h
end Go.Proofs.YtdgdajnbkfmijaaGreatDoor
/- A room in plain Lean: a server, its clients, what is under way; and what holds of it at all times. -/
namespace Go.Proofs.YtdgdajnbkfmijaaGreatDoor
open Go.RowKit
set_option maxRecDepth 100000
/-- A packet. -/
structure PK where
  kind : Int
  k : Nat
  rev : Int
  id : Int
  en : EN
/-- A room. -/
structure RM where
  srv : SV
  cl : List CV
  way : List PK
  lost : Int
def RM.send (r : RM) (p : PK) : RM := if 400 ≤ r.way.length then { r with lost := r.lost + 1 } else { r with way := r.way ++ [p] }
def noEn : EN := ⟨0, 0, []⟩
/-- What a client is told from an operation on. -/
def tolds (k : Nat) : Nat → List EN → List PK
  | _, [] => []
  | n, e :: l => ⟨3, k, n, 0, e⟩ :: tolds k (n + 1) l
def RM.sends (r : RM) (l : List PK) : RM := l.foldl RM.send r
def RM.tells (r : RM) (k : Nat) (rev : Int) : RM := if 0 ≤ rev ∧ rev ≤ (r.srv.log.length : Int) then r.sends (tolds k rev.toNat (r.srv.log.drop rev.toNat)) else r
noncomputable def RM.sv (r : RM) (s : SV) : RM := { r with srv := s }
def RM.setc (r : RM) (k : Nat) (c : CV) : RM := { r with cl := r.cl.set k c }
noncomputable def RM.comes (r : RM) (p : PK) : RM :=
  if p.kind = 1 then
    let t := r.srv.take p.k p.id p.rev p.en.op
    let r1 := ({ r with srv := t.2 } : RM).tells p.k p.rev
    if t.1 ≠ 0 ∧ t.1 ≠ 8 then r1.send ⟨4, p.k, (t.2.log.length : Int), p.id, noEn⟩ else r1
  else if p.kind = 2 then r.tells p.k p.rev
  else if p.kind = 3 then (match r.cl[p.k]? with | some c => r.setc p.k (c.take p.rev p.en) | none => r)
  else if p.kind = 4 then (match r.cl[p.k]? with | some c => r.setc p.k (c.refused p.id) | none => r)
  else r
def RM.out (r : RM) (i : Nat) : RM := { r with way := r.way.eraseIdx i }
noncomputable def RM.deliver (r : RM) (i : Nat) : RM := match r.way[i]? with | some p => (r.out i).comes p | none => r
def RM.again (r : RM) (i : Nat) : RM := match r.way[i]? with | some p => r.send p | none => r
/-- What a client sends. -/
def CV.asks (c : CV) (k : Nat) : PK := if c.has then ⟨1, k, c.rev, c.id, ⟨k, c.id, c.way⟩⟩ else ⟨2, k, c.rev, 0, noEn⟩
def RM.asks (r : RM) (k : Nat) : RM := match r.cl[k]? with | some c => r.send (c.asks k) | none => r
noncomputable def RM.edit (r : RM) (k : Nat) (l : List PT) : RM := match r.cl[k]? with | some c => r.setc k (c.edit l).2 | none => r
/-- A part of the order. -/
def SV.seg (S : SV) (a b : Nat) : List EN := (S.log.drop a).take (b - a)
/-- What holds of a client k beside a server. -/
structure CKok (N : Int) (S : SV) (k : Nat) (c : CV) : Prop where
  who : c.who = k
  ok : COk N c
  rev : c.rev ≤ S.log.length
  seen : S.docs[c.rev]? = some (U.encs c.seen)
  own : ∀ n e, c.rev ≤ n → S.log[n]? = some e → e.who = k → c.has = true → e.id = c.id → e.op = folt c.way (S.seg c.rev n)
  idl : ∀ (n : Nat) e, S.log[n]? = some e → e.who = k → e.id ≤ c.id
  lst : ∀ i x, S.last k = some (i, x) → i ≤ c.id
  acc : ∀ i x, S.last k = some (i, x) → i = c.id → x = 0 → c.has = true → ∃ n e, c.rev ≤ n ∧ S.log[n]? = some e ∧ e.who = k ∧ e.id = c.id
/-- What holds of a packet beside a server and its client. -/
structure PKok (S : SV) (c : CV) (p : PK) : Prop where
  kd : p.kind = 1 ∨ p.kind = 2 ∨ p.kind = 3 ∨ p.kind = 4
  rv : 0 ≤ p.rev ∧ p.rev ≤ (S.log.length : Int)
  ask : p.kind = 1 → 0 ≤ p.id ∧ p.id ≤ c.id ∧ (∀ q ∈ p.en.op, q.Good) ∧ was p.en.op ≤ 2000 ∧ plen p.en.op ≤ 2000 ∧ (p.id = c.id → c.has = true → p.rev.toNat ≤ c.rev ∧ c.way = folt p.en.op (S.seg p.rev.toNat c.rev))
  told : p.kind = 3 → S.log[p.rev.toNat]? = some p.en
  tolr : p.kind = 3 → p.rev < (S.log.length : Int)
/-- What holds of a room at all times. -/
structure RMok (N : Int) (r : RM) : Prop where
  sv : SVok r.srv
  ln : r.srv.log.length ≤ 300
  cl : ∀ k c, r.cl[k]? = some c → CKok N r.srv k c
  way : ∀ p ∈ r.way, ∃ c, r.cl[p.k]? = some c ∧ PKok r.srv c p
  wl : r.way.length ≤ 400
theorem RM.send_srv (r : RM) (p : PK) : (r.send p).srv = r.srv ∧ (r.send p).cl = r.cl := by unfold RM.send; split <;> exact ⟨rfl, rfl⟩
theorem RM.send_way (r : RM) (p : PK) : ∀ q ∈ (r.send p).way, q ∈ r.way ∨ q = p := by
  intro q hq
  unfold RM.send at hq
  split at hq
  · exact .inl hq
  · rcases List.mem_append.1 hq with h | h
    · exact .inl h
    · exact .inr (List.mem_singleton.1 h)
theorem RMok.send {N : Int} {r : RM} (h : RMok N r) {p : PK} (hp : ∃ c, r.cl[p.k]? = some c ∧ PKok r.srv c p) : RMok N (r.send p) := by
  obtain ⟨h1, h2⟩ := r.send_srv p
  refine ⟨by rw [h1]; exact h.sv, by rw [h1]; exact h.ln, fun k c hc => by rw [h1]; exact h.cl k c (by rw [← h2]; exact hc), fun q hq => ?_, ?_⟩
  · rw [h1, h2]
    rcases r.send_way p q hq with hq | rfl
    · exact h.way q hq
    · exact hp
  · unfold RM.send
    split
    · exact h.wl
    · simp; omega
theorem RM.sends_srv (r : RM) (l : List PK) : (r.sends l).srv = r.srv ∧ (r.sends l).cl = r.cl := by
  induction l generalizing r with
  | nil => exact ⟨rfl, rfl⟩
  | cons p l ih =>
    obtain ⟨h1, h2⟩ := ih (r.send p)
    obtain ⟨h3, h4⟩ := r.send_srv p
    exact ⟨h1.trans h3, h2.trans h4⟩
theorem RMok.sends {N : Int} {r : RM} (h : RMok N r) {l : List PK} (hl : ∀ p ∈ l, ∃ c, r.cl[p.k]? = some c ∧ PKok r.srv c p) : RMok N (r.sends l) := by
  induction l generalizing r with
  | nil => exact h
  | cons p l ih =>
    obtain ⟨h1, h2⟩ := r.send_srv p
    exact ih (h.send (hl p (by simp))) (fun q hq => by rw [h1, h2]; exact hl q (by simp [hq]))
theorem tolds_mem {k n : Nat} {l : List EN} {p : PK} (h : p ∈ tolds k n l) : ∃ i, i < l.length ∧ p.kind = 3 ∧ p.k = k ∧ p.rev = ((n + i : Nat) : Int) ∧ l[i]? = some p.en := by
  induction l generalizing n with
  | nil => simp [tolds] at h
  | cons e l ih =>
    rw [tolds] at h
    rcases List.mem_cons.1 h with rfl | h
    · exact ⟨0, by simp, rfl, rfl, by simp, by simp⟩
    · obtain ⟨i, h1, h2, h3, h4, h5⟩ := ih h
      exact ⟨i + 1, by simp; omega, h2, h3, by rw [h4]; congr 1; omega, by simpa using h5⟩
theorem RMok.tells {N : Int} {r : RM} (h : RMok N r) {k : Nat} {c : CV} (hc : r.cl[k]? = some c) (rev : Int) : RMok N (r.tells k rev) := by
  unfold RM.tells
  split
  · rename_i hr
    refine h.sends (fun p hp => ?_)
    obtain ⟨i, h1, h2, h3, h4, h5⟩ := tolds_mem hp
    rw [List.length_drop] at h1
    rw [List.getElem?_drop] at h5
    refine ⟨c, by rw [h3]; exact hc, .inr (.inr (.inl h2)), ⟨by omega, by omega⟩, fun e => by omega, fun _ => ?_, fun _ => by omega⟩
    rw [h4]
    exact h5
  · exact h
/-- What Take leaves: nothing more, or one more. -/
def TakeS (S : SV) (who id rev : Int) (op : List PT) (t : Int × SV) : Prop :=
  (t.2.log = S.log ∧ t.2.docs = S.docs ∧ (t.2.last = S.last ∨ (t.1 ≠ 0 ∧ (∀ i x, S.last who = some (i, x) → i < id) ∧ t.2.last = fun x => if x = who then some (id, t.1) else S.last x))) ∨
    (t.1 = 0 ∧ 0 ≤ rev ∧ rev ≤ (S.log.length : Int) ∧ S.log.length < 300 ∧ chk op (((S.docs[rev.toNat]?).getD []).length : Nat) = 0 ∧ t.2.log = S.log ++ [⟨who, id, folt op (S.log.drop rev.toNat)⟩] ∧
      (∃ d, t.2.docs = S.docs ++ [d]) ∧ t.2.last = (fun x => if x = who then some (id, 0) else S.last x) ∧ ∀ i x, S.last who = some (i, x) → i < id)
theorem SV.take_spec (S : SV) (who id rev : Int) (op : List PT) : TakeS S who id rev op (S.take who id rev op) := by
  have hd : ((S.does who id rev op).1 ≠ 0 ∧ (S.does who id rev op).2 = S) ∨ ((S.does who id rev op).1 = 0 ∧ 0 ≤ rev ∧ rev ≤ (S.log.length : Int) ∧ S.log.length < 300 ∧ chk op (((S.docs[rev.toNat]?).getD []).length : Nat) = 0 ∧
      (S.does who id rev op).2.log = S.log ++ [⟨who, id, folt op (S.log.drop rev.toNat)⟩] ∧ ∃ d, (S.does who id rev op).2.docs = S.docs ++ [d]) := by
    unfold SV.does
    split
    · exact .inl ⟨(by decide : (2 : Int) ≠ 0), rfl⟩
    split
    · exact .inl ⟨(by decide : (4 : Int) ≠ 0), rfl⟩
    split
    · rename_i h; exact .inl ⟨h, rfl⟩
    split
    · rename_i h; exact .inl ⟨h, rfl⟩
    split
    · exact .inl ⟨(by decide : (12 : Int) ≠ 0), rfl⟩
    · rename_i h1 h2 h3 h4 h5
      exact .inr ⟨rfl, by omega, by omega, by omega, Decidable.not_not.1 h3, rfl, _, rfl⟩
  have hf : (∀ i x, S.last who = some (i, x) → i < id) → TakeS S who id rev op (S.fresh who id rev op) := fun hlt => by
    unfold SV.fresh
    rcases hd with ⟨h1, h2⟩ | ⟨h1, h2, h3, h4, h5, h6, h7⟩
    · exact .inl ⟨by dsimp only; rw [h2], by dsimp only; rw [h2], .inr ⟨h1, hlt, rfl⟩⟩
    · exact .inr ⟨h1, h2, h3, h4, h5, h6, h7, by dsimp only; rw [h1], hlt⟩
  cases hl : S.last who with
  | none =>
    have e : S.take who id rev op = S.fresh who id rev op := by unfold SV.take; rw [hl]
    rw [e]
    exact hf (fun i x h => by rw [hl] at h; cases h)
  | some y =>
    obtain ⟨i, x⟩ := y
    by_cases h1 : id < i
    · have e : S.take who id rev op = (8, S) := by unfold SV.take; rw [hl]; dsimp only; rw [if_pos h1]
      rw [e]
      exact .inl ⟨rfl, rfl, .inl rfl⟩
    · by_cases h2 : id = i
      · have e : S.take who id rev op = (x, S) := by unfold SV.take; rw [hl]; dsimp only; rw [if_neg h1, if_pos h2]
        rw [e]
        exact .inl ⟨rfl, rfl, .inl rfl⟩
      · have e : S.take who id rev op = S.fresh who id rev op := by unfold SV.take; rw [hl]; dsimp only; rw [if_neg h1, if_neg h2]
        rw [e]
        refine hf (fun j y h => ?_)
        rw [hl] at h
        cases h
        omega
theorem folt_append (op : List PT) (a b : List EN) : folt op (a ++ b) = folt (folt op a) b := by unfold folt; rw [List.foldl_append]
theorem seg_split (L : List EN) {a b : Nat} (h : a ≤ b) : L.drop a = (L.drop a).take (b - a) ++ L.drop b := by
  have e : (L.drop a).drop (b - a) = L.drop b := by rw [List.drop_drop]; congr 1; omega
  rw [← e, List.take_append_drop]
/-- A part of an order that was added to. -/
theorem seg_more {S S' : SV} {E : EN} (hl : S'.log = S.log ++ [E]) {a b : Nat} (hb : b ≤ S.log.length) : S'.seg a b = S.seg a b := by
  unfold SV.seg
  rw [hl]
  by_cases ha : a ≤ S.log.length
  · rw [List.drop_append_of_le_length ha, List.take_append_of_le_length (by rw [List.length_drop]; omega)]
  · rw [show b - a = 0 from by omega, List.take_zero, List.take_zero]
theorem seg_all {S S' : SV} {E : EN} (hl : S'.log = S.log ++ [E]) {a : Nat} (_ha : a ≤ S.log.length) : S'.seg a S.log.length = S.log.drop a := by
  rw [seg_more hl (Nat.le_refl _)]
  unfold SV.seg
  rw [List.take_of_length_le (by rw [List.length_drop]; omega)]
/-- What Take asks of the client whose it is. -/
def AskOk (S : SV) (c : CV) (id rev : Int) (op : List PT) : Prop := id ≤ c.id ∧ (id = c.id → c.has = true → rev.toNat ≤ c.rev ∧ c.way = folt op (S.seg rev.toNat c.rev))
/-- A client, beside a server that took something. -/
theorem CKok.served {N : Int} {S : SV} {k : Nat} {c : CV} {who id rev : Int} {op : List PT} {t : Int × SV} (h : CKok N S k c) (hS : S.docs.length = S.log.length + 1) (hp : (k : Int) = who → AskOk S c id rev op) (ht : TakeS S who id rev op t) : CKok N t.2 k c := by
  obtain ⟨x, S'⟩ := t
  rcases ht with ⟨h1, h2, h3⟩ | ⟨h1, h2, h3, h4, h5, h6, ⟨d, h7⟩, h8, h9⟩
  · dsimp only at h1 h2 h3 ⊢
    have hseg : ∀ a b, S'.seg a b = S.seg a b := fun a b => by unfold SV.seg; rw [h1]
    refine ⟨h.who, h.ok, by rw [h1]; exact h.rev, by rw [h2]; exact h.seen, fun n e => by rw [h1, hseg]; exact h.own n e, fun n e => by rw [h1]; exact h.idl n e, fun i y hy => ?_, fun i y hy he h0 hh => ?_⟩
    · rcases h3 with h3 | ⟨-, -, h3⟩
      · rw [h3] at hy; exact h.lst i y hy
      · rw [h3] at hy
        dsimp only at hy
        split at hy
        · rename_i hk
          cases hy
          exact (hp hk).1
        · exact h.lst i y hy
    · rw [h1]
      rcases h3 with h3 | ⟨hx, -, h3⟩
      · rw [h3] at hy; exact h.acc i y hy he h0 hh
      · rw [h3] at hy
        dsimp only at hy
        split at hy
        · cases hy
          exact absurd h0 hx
        · exact h.acc i y hy he h0 hh
  · dsimp only at h1 h6 h7 h8 ⊢
    have hrv := h.rev
    have hlog : ∀ n e, S'.log[n]? = some e → S.log[n]? = some e ∨ n = S.log.length ∧ e = ⟨who, id, folt op (S.log.drop rev.toNat)⟩ := fun n e he => by rw [h6] at he; exact getElem?_snoc he
    have hold : ∀ n, n < S.log.length → S'.log[n]? = S.log[n]? := fun n hn => by rw [h6, List.getElem?_append_left hn]
    have hnew : S'.log[S.log.length]? = some ⟨who, id, folt op (S.log.drop rev.toNat)⟩ := by rw [h6, List.getElem?_append_right (Nat.le_refl _)]; simp
    have hlen : S'.log.length = S.log.length + 1 := by rw [h6]; simp
    refine ⟨h.who, h.ok, by omega, ?_, fun n e hn he hw hh hi => ?_, fun n e he hw => ?_, fun i y hy => ?_, fun i y hy he h0 hh => ?_⟩
    · rw [h7, List.getElem?_append_left (by omega)]; exact h.seen
    · rcases hlog n e he with he | ⟨rfl, rfl⟩
      · have hn2 := (List.getElem?_eq_some_iff.1 he).1
        rw [seg_more h6 (by omega)]
        exact h.own n e hn he hw hh hi
      · obtain ⟨a1, a2⟩ := hp hw.symm
        obtain ⟨a3, a4⟩ := a2 hi hh
        rw [seg_all h6 hrv, a4, ← folt_append]
        unfold SV.seg
        rw [← seg_split _ a3]
    · rcases hlog n e he with he | ⟨rfl, rfl⟩
      · exact h.idl n e he hw
      · exact (hp hw.symm).1
    · rw [h8] at hy
      dsimp only at hy
      split at hy
      · rename_i hk
        cases hy
        exact (hp hk).1
      · exact h.lst i y hy
    · rw [h8] at hy
      dsimp only at hy
      split at hy
      · rename_i hk
        cases hy
        exact ⟨S.log.length, _, hrv, hnew, hk.symm, he⟩
      · obtain ⟨n, e, b1, b2, b3, b4⟩ := h.acc i y hy he h0 hh
        exact ⟨n, e, b1, by rw [hold n (List.getElem?_eq_some_iff.1 b2).1]; exact b2, b3, b4⟩
/-- A packet, beside a server that took something. -/
theorem PKok.served {S : SV} {c : CV} {p : PK} {who id rev : Int} {op : List PT} {t : Int × SV} (h : PKok S c p) (hc : c.rev ≤ S.log.length) (ht : TakeS S who id rev op t) : PKok t.2 c p := by
  obtain ⟨x, S'⟩ := t
  rcases ht with ⟨h1, -, -⟩ | ⟨-, -, -, -, -, h6, -, -, -⟩
  · dsimp only at h1 ⊢
    have hseg : ∀ a b, S'.seg a b = S.seg a b := fun a b => by unfold SV.seg; rw [h1]
    exact ⟨h.kd, by rw [h1]; exact h.rv, fun e => by rw [hseg]; exact h.ask e, fun e => by rw [h1]; exact h.told e, fun e => by rw [h1]; exact h.tolr e⟩
  · dsimp only at h6 ⊢
    have hlen : S'.log.length = S.log.length + 1 := by rw [h6]; simp
    have hrv := h.rv
    refine ⟨h.kd, by omega, fun e => by rw [seg_more h6 hc]; exact h.ask e, fun e => ?_, fun e => by have := h.tolr e; omega⟩
    have := h.tolr e
    rw [h6, List.getElem?_append_left (by omega)]
    exact h.told e
theorem CKok.mono {N N' : Int} {S : SV} {k : Nat} {c : CV} (h : CKok N S k c) (hn : N ≤ N') : CKok N' S k c := ⟨h.who, h.ok.mono hn, h.rev, h.seen, h.own, h.idl, h.lst, h.acc⟩
/-- What an edit leaves of what is on the way. -/
theorem CV.edit_way (c : CV) (l : List PT) : (c.edit l).2.who = c.who ∧ (c.edit l).2.rev = c.rev ∧ (c.edit l).2.seen = c.seen ∧ (c.has = true → (c.edit l).2.id = c.id ∧ (c.edit l).2.way = c.way ∧ (c.edit l).2.has = true) ∧ (c.has = false → (c.edit l).2 = c ∨ (c.edit l).2.id = c.id + 1) ∧ (c.edit l).2.unit = c.unit := by
  unfold CV.edit
  split
  · exact ⟨rfl, rfl, rfl, fun h => ⟨rfl, rfl, h⟩, fun _ => .inl rfl, rfl⟩
  split
  · exact ⟨rfl, rfl, rfl, fun h => ⟨rfl, rfl, h⟩, fun _ => .inl rfl, rfl⟩
  split
  · exact ⟨rfl, rfl, rfl, fun h => ⟨rfl, rfl, h⟩, fun _ => .inl rfl, rfl⟩
  · refine ⟨rfl, rfl, rfl, fun h => ⟨?_, ?_, rfl⟩, fun h => .inr ?_, rfl⟩
    · dsimp only; rw [h]; rfl
    · dsimp only; rw [h]; rfl
    · dsimp only; rw [h]; rfl
theorem CKok.edit {N : Int} {S : SV} {k : Nat} {c : CV} (h : CKok N S k c) (l : List PT) : CKok (N + 1) S k (c.edit l).2 := by
  obtain ⟨e1, e2, e3, e4, e5, -⟩ := c.edit_way l
  have hk := h.ok.edit l
  by_cases heq : (c.edit l).2 = c
  · rw [heq]; exact h.mono (by omega)
  generalize (c.edit l).2 = c' at *
  cases hh : c.has
  · have e5 := (e5 hh).resolve_left heq
    refine ⟨by rw [e1]; exact h.who, hk, by rw [e2]; exact h.rev, by rw [e2, e3]; exact h.seen, fun n e _ he hw _ hi => ?_, fun n e he hw => ?_, fun i x hx => ?_, fun i x hx hi _ _ => ?_⟩
    · have := h.idl n e he hw; omega
    · have := h.idl n e he hw; omega
    · have := h.lst i x hx; omega
    · have := h.lst i x hx; omega
  · obtain ⟨e4, e6, e7⟩ := e4 hh
    refine ⟨by rw [e1]; exact h.who, hk, by rw [e2]; exact h.rev, by rw [e2, e3]; exact h.seen, fun n e => ?_, fun n e => by rw [e4]; exact h.idl n e, fun i x => by rw [e4]; exact h.lst i x, fun i x hx hi h0 _ => ?_⟩
    · rw [e2, e4, e6]
      intro a b d _ f
      exact h.own n e a b d hh f
    · rw [e2, e4]
      rw [e4] at hi
      exact h.acc i x hx hi h0 hh
theorem PKok.edit {S : SV} {c : CV} {p : PK} (h : PKok S c p) (l : List PT) : PKok S (c.edit l).2 p := by
  obtain ⟨-, e2, -, e4, e5, -⟩ := c.edit_way l
  by_cases heq : (c.edit l).2 = c
  · rw [heq]; exact h
  generalize (c.edit l).2 = c' at *
  refine ⟨h.kd, h.rv, fun e => ?_, h.told, h.tolr⟩
  obtain ⟨a1, a2, a3, a4, a5, a6⟩ := h.ask e
  cases hh : c.has
  · have e5 := (e5 hh).resolve_left heq
    exact ⟨a1, by omega, a3, a4, a5, fun hi _ => by omega⟩
  · obtain ⟨e4, e6, e7⟩ := e4 hh
    exact ⟨a1, by omega, a3, a4, a5, fun hi _ => by rw [e2, e6]; exact a6 (by omega) hh⟩
theorem seg_self (S : SV) (a : Nat) : S.seg a a = [] := by unfold SV.seg; rw [Nat.sub_self, List.take_zero]
theorem seg_cons {S : SV} {a n : Nat} {e : EN} (h : S.log[a]? = some e) (hn : a < n) : S.seg a n = e :: S.seg (a + 1) n := by
  unfold SV.seg
  obtain ⟨hl, rfl⟩ := List.getElem?_eq_some_iff.1 h
  rw [List.drop_eq_getElem_cons hl, show n - a = (n - (a + 1)) + 1 from by omega, List.take_succ_cons]
theorem seg_snoc {S : SV} {a b : Nat} {e : EN} (h : S.log[b]? = some e) (hn : a ≤ b) : S.seg a (b + 1) = S.seg a b ++ [e] := by
  unfold SV.seg
  obtain ⟨hl, rfl⟩ := List.getElem?_eq_some_iff.1 h
  rw [show b + 1 - a = (b - a) + 1 from by omega, List.take_succ_eq_append_getElem (by rw [List.length_drop]; omega)]
  congr 2
  rw [List.getElem_drop]
  congr 1
  omega
theorem folt_cons (op : List PT) (e : EN) (l : List EN) : folt op (e :: l) = folt (trl false op e.op) l := rfl
/-- What comes next fits. -/
theorem CKok.fit {N : Int} {S : SV} {k : Nat} {c : CV} {e : EN} (h : CKok N S k c) (hS : SVok S) (he : S.log[c.rev]? = some e) : ∃ Z, Fit_ c e Z ∧ S.docs[c.rev + 1]? = some (U.encs (rap Z c.seen)) := by
  obtain ⟨R, X, h1, h2, h3, h4, h5, h6, h7⟩ := hS.entry he
  have hs := h.seen
  rw [h1] at hs
  obtain rfl : R = c.seen := encs_inj h2 h.ok.all (Option.some.inj hs)
  refine ⟨X, ⟨h4, h6, fun ho => ?_⟩, h5⟩
  have := h.own c.rev e (Nat.le_refl _) he (ho.1.trans h.who) ho.2.1 ho.2.2
  rwa [seg_self, folt_nil] at this
theorem CKok.take {N : Int} {S : SV} {k : Nat} {c : CV} {rev : Int} {e : EN} (h : CKok N S k c) (hS : SVok S) (he : rev = c.rev → S.log[c.rev]? = some e) : CKok N S k (c.take rev e) := by
  unfold CV.take
  by_cases hr : rev = c.rev
  · have he := he hr
    obtain ⟨Z, hZ, hd⟩ := h.fit hS he
    have hl := (List.getElem?_eq_some_iff.1 he).1
    rw [if_neg (fun h => h hr)]
    by_cases ho : c.isOwn e
    · rw [if_pos ho]
      obtain ⟨hk, hsn⟩ := h.ok.own_ hZ ho
      have hid : c.more = true → (c.own e).id = c.id + 1 := fun hm => by unfold CV.own; dsimp only; rw [hm]; rfl
      have hid2 : c.id ≤ (c.own e).id := by unfold CV.own; dsimp only; split <;> omega
      refine ⟨h.who, hk, hl, by rw [hsn]; exact hd, fun n x _ hx hw hh hi => ?_, fun n x hx hw => ?_, fun i x hx => ?_, fun i x hx hi _ hh => ?_⟩
      · have hm : c.more = true := hh
        have := h.idl n x hx hw
        have := hid hm
        omega
      · have := h.idl n x hx hw; omega
      · have := h.lst i x hx; omega
      · have hm : c.more = true := hh
        have := h.lst i x hx
        have := hid hm
        omega
    · rw [if_neg ho]
      obtain ⟨-, -, hk, hsn⟩ := h.ok.over_ hZ
      have hway : c.has = true → (c.other e).way = trl false c.way e.op := fun hh => by unfold CV.other; dsimp only; rw [hh]; rfl
      refine ⟨h.who, hk, hl, by rw [hsn]; exact hd, fun n x hn hx hw hh hi => ?_, h.idl, h.lst, fun i x hx hi h0 hh => ?_⟩
      · have hh : c.has = true := hh
        have hn : c.rev + 1 ≤ n := hn
        have := h.own n x (by omega) hx hw hh hi
        rw [seg_cons he (by omega), folt_cons] at this
        rw [hway hh]
        exact this
      · obtain ⟨n, y, b1, b2, b3, b4⟩ := h.acc i x hx hi h0 hh
        refine ⟨n, y, ?_, b2, b3, b4⟩
        show c.rev + 1 ≤ n
        rcases Nat.lt_or_ge c.rev n with hc | hc
        · exact hc
        · obtain rfl : n = c.rev := by omega
          rw [he] at b2
          cases b2
          exact absurd ⟨b3.trans h.who.symm, hh, b4⟩ ho
  · rw [if_pos hr]
    exact h
theorem PKok.take {N : Int} {S : SV} {k : Nat} {c : CV} {p : PK} {rev : Int} {e : EN} (hp : PKok S c p) (_h : CKok N S k c) (he : rev = c.rev → S.log[c.rev]? = some e) : PKok S (c.take rev e) p := by
  unfold CV.take
  by_cases hr : rev = c.rev
  · have he := he hr
    rw [if_neg (fun h => h hr)]
    refine ⟨hp.kd, hp.rv, fun ek => ?_, hp.told, hp.tolr⟩
    obtain ⟨a1, a2, a3, a4, a5, a6⟩ := hp.ask ek
    by_cases ho : c.isOwn e
    · rw [if_pos ho]
      have hid : c.more = true → (c.own e).id = c.id + 1 := fun hm => by unfold CV.own; dsimp only; rw [hm]; rfl
      have hid2 : c.id ≤ (c.own e).id := by unfold CV.own; dsimp only; split <;> omega
      refine ⟨a1, by omega, a3, a4, a5, fun hi hh => ?_⟩
      have hm : c.more = true := hh
      have := hid hm
      omega
    · rw [if_neg ho]
      refine ⟨a1, a2, a3, a4, a5, fun hi hh => ?_⟩
      have hh : c.has = true := hh
      obtain ⟨b1, b2⟩ := a6 hi hh
      have hway : (c.other e).way = trl false c.way e.op := by unfold CV.other; dsimp only; rw [hh]; rfl
      refine ⟨Nat.le_succ_of_le b1, ?_⟩
      show (c.other e).way = folt p.en.op (S.seg p.rev.toNat (c.rev + 1))
      rw [hway, seg_snoc he b1, folt_snoc, ← b2]
  · rw [if_pos hr]
    exact hp
theorem CKok.refused {N : Int} {S : SV} {k : Nat} {c : CV} (h : CKok N S k c) (id : Int) : CKok N S k (c.refused id) := by
  have hk := h.ok.refused id
  unfold CV.refused at hk ⊢
  split at hk
  · rename_i hc
    rw [if_pos hc]
    exact ⟨h.who, hk, h.rev, h.seen, (fun n e _ _ _ hh => by cases hh), h.idl, h.lst, (fun i x _ _ _ hh => by cases hh)⟩
  · rename_i hc
    rw [if_neg hc]
    exact h
theorem PKok.refused {S : SV} {c : CV} {p : PK} (h : PKok S c p) (id : Int) : PKok S (c.refused id) p := by
  unfold CV.refused
  split
  · refine ⟨h.kd, h.rv, fun e => ?_, h.told, h.tolr⟩
    obtain ⟨a1, a2, a3, a4, a5, a6⟩ := h.ask e
    exact ⟨a1, a2, a3, a4, a5, (fun _ hh => by cases hh)⟩
  · exact h
end Go.Proofs.YtdgdajnbkfmijaaGreatDoor
/- What plays does to a document in units: its loop, plain. -/
namespace Go.Proofs.YtdgdajnbkfmijaaGreatDoor
/-- What a part puts, and keeps, of the runes d that it goes over. -/
def kept (p : PT) (d : List Int) : List Int := if 0 < p.keep then d else []
/-- Where the loop of plays is: P gone through, Q ahead, T what came. -/
structure PlI (R : List Int) (u : Int) (l : List PT) (k : Nat) (P Q T : List Int) : Prop where
  k_le : k ≤ l.length
  eq : R = P ++ Q
  rest : was (l.drop k) = (cnt Q).of u
  op : ∃ O X, OpR O X P ∧ T = rap X P ∧ (tnF R u 1 Cn.zero 0 l).1 = O ++ (tnF R u 1 (cnt P) ((cnt P).of u) (l.drop k)).1 ∧ (tnF R u 1 Cn.zero 0 l).2 = (tnF R u 1 (cnt P) ((cnt P).of u) (l.drop k)).2
  siz : bl T + plen (l.drop k) ≤ bl P + plen l
theorem PlI.start {R : List Int} {u : Int} {l : List PT} (h : was l = (cnt R).of u) : PlI R u l 0 [] R [] :=
  ⟨Nat.zero_le _, rfl, h, ⟨[], [], .nil, rfl, by rw [cnt_nil, of_zero]; rfl, by rw [cnt_nil, of_zero]; rfl⟩, by simp⟩
theorem rap_snoc {α : Type} {X Y : List (RU α)} {R S : List α} (h : rwas X = R.length) : rap (X ++ Y) (R ++ S) = rap X R ++ rap Y S := by
  induction X generalizing R with
  | nil => obtain rfl := List.length_eq_zero_iff.1 h.symm; simp [rap]
  | cons x X ih =>
    cases x with
    | p r => simp only [List.cons_append, rap, ih (R := R) h]
    | k => cases R with
      | nil => simp [rwas] at h
      | cons r R => simp only [List.cons_append, rap, ih (R := R) (by simpa [rwas] using h)]
    | d => cases R with
      | nil => simp [rwas] at h
      | cons r R => simp only [List.cons_append, rap, ih (R := R) (by simpa [rwas] using h)]
/-- The place behind a part is none: it ends there. -/
theorem PlI.stop {R : List Int} {u : Int} {l : List PT} {k : Nat} {P Q T : List Int} (h : PlI R u l k P Q T) (hu : 1 ≤ u ∧ u ≤ 3) (hg : ∀ p ∈ l, p.Good) (hk : k < l.length) (hno : ∀ d q, Q = d ++ q → (cnt d).of u ≠ l[k].keep + l[k].drop) : (tnF R u 1 Cn.zero 0 l).2 = 10 := by
  obtain ⟨O, X, -, -, -, e⟩ := h.op
  have hn := (hg _ (List.getElem_mem hk)).1.2
  obtain ⟨c, e', hA⟩ := ahead_ex u ((cnt P).of u + (l[k].keep + l[k].drop)) R
  have hr := h.rest
  have hin : ¬ ((cnt P).of u + (l[k].keep + l[k].drop) < 0 ∨ (cnt R).of u < (cnt P).of u + (l[k].keep + l[k].drop)) := by
    have h1 := of_nn P u
    have h2 : 0 ≤ was (l.drop (k + 1)) := was_nn fun p hp => (hg p (List.mem_of_mem_drop hp)).1
    rw [tn_drop hk, was] at hr
    rw [h.eq, cnt_app_of]
    omega
  have h10 : e' = 10 := by
    rcases hA.2.2 (by omega) hin with ⟨-, hp⟩ | ⟨e2, -⟩
    · rw [h.eq] at hp
      obtain ⟨d, q, rfl, -, hd⟩ := pl_behind rfl (by omega) hu hp
      exact absurd hd (hno d q rfl)
    · exact erV_inj (b := 10) e2
  subst h10
  rw [e, tn_drop hk, tnF_stop hA (by decide)]
/-- One part further. -/
theorem PlI.step {R : List Int} {u : Int} {l : List PT} {k : Nat} {P d q T : List Int} (h : PlI R u l k P (d ++ q) T) (hu : 1 ≤ u ∧ u ≤ 3) (hg : ∀ p ∈ l, p.Good) (hk : k < l.length) (hd : (cnt d).of u = l[k].keep + l[k].drop) {rs : List Int} (hrs : l[k].put = U.encs rs) (hal : U.AllR rs) :
    PlI R u l (k + 1) (P ++ d) q (T ++ (kept l[k] d ++ rs)) := by
  obtain ⟨O, X, ho, ht, e1, e2⟩ := h.op
  have hgk := hg _ (List.getElem_mem hk)
  have hn := hgk.1.2
  have hA : AheadR u ((cnt P).of u + (l[k].keep + l[k].drop)) R (cnt (P ++ d)) (erV 0) := Pl.ahead hu ⟨P ++ d, q, by rw [h.eq, List.append_assoc], by rw [cnt_app_of, hd], rfl⟩
  have e3 : (cnt P).of u + (l[k].keep + l[k].drop) = (cnt (P ++ d)).of u := by rw [cnt_app_of, hd]
  have hr := h.rest
  rw [tn_drop hk, was, cnt_app_of] at hr
  rw [tn_drop hk, tnF_step hA, e3] at e1 e2
  have hs := h.siz
  rw [tn_drop hk, plen, hrs] at hs
  have hbr : (U.encs rs).length = bl rs := rfl
  have e4 : (cnt (P ++ d)).of 1 - (cnt P).of 1 = bl d := by rw [cnt_app_of, of_one_bl d]; omega
  rw [e4] at e1
  have hd0 : l[k].keep + l[k].drop = 0 → d = [] := fun e => by
    have := of_len d hu
    exact List.length_eq_zero_iff.1 (by omega)
  have hd1 : 0 < l[k].keep + l[k].drop → d ≠ [] := fun e e' => by
    subst e'
    rw [cnt_nil, of_zero] at hd
    omega
  refine ⟨by omega, by rw [h.eq, List.append_assoc], by omega, ?_, ?_⟩
  · generalize l[k] = p at *
    rcases hgk.1.cases with ⟨b, hb, rfl⟩ | ⟨n, hn', rfl⟩ | ⟨n, hn', rfl⟩
    · dsimp only at hrs hd0 hd1
      subst hrs
      obtain rfl := hd0 rfl
      have hne : rs ≠ [] := by rintro rfl; exact hb rfl
      have hx := OpR.put hne hal OpR.nil
      refine ⟨O ++ [⟨0, 0, U.encs rs⟩], X ++ (rs.map .p ++ []), by have := ho.append hx; rwa [List.append_nil] at this ⊢, ?_, ?_, e2⟩
      · have e5 := rap_snoc (X := X) (Y := rs.map .p ++ []) (R := P) (S := []) ho.was_
        have e6 := rap_ps rs [] []
        rw [e5, e6, ← ht]
        simp [kept, rap]
      · rw [e1, tnP_put]; simp
    · dsimp only at hrs hd0 hd1
      have hrs0 : rs = [] := by
        by_cases e : rs = []
        · exact e
        · exact absurd hrs.symm (encs_ne e)
      subst hrs0
      have hne := hd1 (by omega)
      have hx := OpR.drop hne OpR.nil
      refine ⟨O ++ [⟨0, (bl d : Nat), []⟩], X ++ (List.replicate d.length .d ++ []), by have := ho.append hx; rwa [List.append_nil d] at this, ?_, ?_, e2⟩
      · rw [rap_snoc ho.was_, ← ht]
        have := rap_ds' d [] []
        rw [List.append_nil d] at this
        rw [this]
        simp [kept, rap]
      · rw [e1, tnP_drop hn']; simp
    · dsimp only at hrs hd0 hd1
      have hrs0 : rs = [] := by
        by_cases e : rs = []
        · exact e
        · exact absurd hrs.symm (encs_ne e)
      subst hrs0
      have hne := hd1 (by omega)
      have hx := OpR.keep hne OpR.nil
      refine ⟨O ++ [⟨(bl d : Nat), 0, []⟩], X ++ (List.replicate d.length .k ++ []), by have := ho.append hx; rwa [List.append_nil d] at this, ?_, ?_, e2⟩
      · rw [rap_snoc ho.was_, ← ht]
        have := rap_ks' d [] []
        rw [List.append_nil d] at this
        rw [this]
        unfold kept
        rw [if_pos (by dsimp only; omega)]
        simp [rap]
      · rw [e1, tnP_keep hn']; simp
  · rw [bl_append, bl_append, bl_append]
    have hkd : bl (kept l[k] d) ≤ bl d := by unfold kept; split <;> simp
    omega
/-- All of it was done. -/
theorem PlI.finish {R : List Int} {u : Int} {l : List PT} {k : Nat} {P Q T : List Int} (h : PlI R u l k P Q T) (hu : 1 ≤ u ∧ u ≤ 3) (hk : k = l.length) : (tnF R u 1 Cn.zero 0 l).2 = 0 ∧ ∃ X, OpR (tnF R u 1 Cn.zero 0 l).1 X R ∧ T = rap X R := by
  obtain ⟨O, X, ho, ht, e1, e2⟩ := h.op
  have hr := h.rest
  rw [hk, List.drop_length] at e1 e2 hr
  rw [tnF] at e1 e2
  rw [was] at hr
  have hq : Q = [] := by
    have := of_len Q hu
    exact List.length_eq_zero_iff.1 (by omega)
  subst hq
  have he := h.eq
  rw [List.append_nil] at he e1
  subst he
  exact ⟨e2, X, by rw [e1]; exact ho, ht⟩
end Go.Proofs.YtdgdajnbkfmijaaGreatDoor
/- ref.Halves, strings.Count of one byte, ref.Count. -/
namespace Go.Proofs.YtdgdajnbkfmijaaGreatDoor
open Go.RowKit
set_option maxRecDepth 100000
theorem by8_ne {x : Int} (h0 : 0 ≤ x) (h1 : x < 256) (hx : x ≠ 10) : (U.by8 x == 10) = false := by
  rw [beq_eq_false_iff_ne]
  intro e
  have t := U.by8_toNat h0 h1
  rw [e] at t
  have h10 : (((10 : UInt8).toNat : Nat) : Int) = 10 := rfl
  omega
theorem enc_nl {r : Int} (h : U.right r = true) : (U.enc r).count 10 = if r = 10 then 1 else 0 := by
  have hr := U.right_iff.1 h
  unfold U.enc
  by_cases c1 : r < 128
  · rw [if_pos c1]
    by_cases e : r = 10
    · subst e; rfl
    · rw [if_neg e, List.count_cons, by8_ne (by omega) (by omega) e]; rfl
  · rw [if_neg c1, if_neg (show ¬ r = 10 by omega)]
    by_cases c2 : r < 2048
    · rw [if_pos c2, List.count_cons, List.count_cons, by8_ne (by omega) (by omega) (by omega), by8_ne (by omega) (by omega) (by omega)]; rfl
    · rw [if_neg c2]
      by_cases c3 : r < 65536
      · rw [if_pos c3, List.count_cons, List.count_cons, List.count_cons, by8_ne (by omega) (by omega) (by omega), by8_ne (by omega) (by omega) (by omega), by8_ne (by omega) (by omega) (by omega)]; rfl
      · rw [if_neg c3, List.count_cons, List.count_cons, List.count_cons, List.count_cons, by8_ne (by omega) (by omega) (by omega), by8_ne (by omega) (by omega) (by omega), by8_ne (by omega) (by omega) (by omega), by8_ne (by omega) (by omega) (by omega)]; rfl
/-- What a text counts: bytes, halves, runes, line ends. -/
theorem cnt_full {rs : List Int} (h : U.AllR rs) : cnt rs = ⟨(U.encs rs).length, (U.hvs rs).length, rs.length, ((U.encs rs).count 10 : Nat)⟩ := by
  suffices hs : ∀ n (rs : List Int), rs.length = n → U.AllR rs → cnt rs = ⟨(U.encs rs).length, (U.hvs rs).length, rs.length, ((U.encs rs).count 10 : Nat)⟩ from hs _ rs rfl h
  clear h rs
  intro n
  induction n with
  | zero => intro rs hl _; obtain rfl := List.eq_nil_of_length_eq_zero hl; rfl
  | succ n ih =>
    intro rs hl ha
    rcases List.eq_nil_or_concat rs with rfl | ⟨a, r, rfl⟩
    · simp at hl
    · rw [List.concat_eq_append] at *
      have hr : U.right r = true := ha r (by simp)
      have ha' : U.AllR a := fun x hx => ha x (by simp [hx])
      rw [cnt_snoc, ih a (by simpa using hl) ha', U.encs_append, U.hvs_append, U.encs_cons, U.encs_nil, U.hvs_cons, U.hvs_nil, List.append_nil, List.append_nil, List.count_append, enc_nl hr]
      simp only [Cn.add, oneC, List.length_append, U.hv_length, U.enc_length, List.length_cons, List.length_nil]
      refine Cn.mk.injEq .. |>.mpr ⟨by omega, ?_, by omega, ?_⟩
      · unfold U.hwid
        split <;> split <;> omega
      · split <;> omega
end Go.Proofs.YtdgdajnbkfmijaaGreatDoor
/- Lines of a text in its bytes. Plain. -/
namespace Go.Proofs.YtdgdajnbkfmijaaGreatDoor
open Go.RowKit
theorem all_of_app {a b : List Int} (h : U.AllR (a ++ b)) : U.AllR a ∧ U.AllR b := ⟨fun r hr => h r (List.mem_append_left _ hr), fun r hr => h r (List.mem_append_right _ hr)⟩
end Go.Proofs.YtdgdajnbkfmijaaGreatDoor
