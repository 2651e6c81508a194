/- Several texts of the proof, one behind the other: AhM, ApM, RuC, ShP, BrM, RuD, RopeO. -/
import Derived.Test.YtgokmldngnmmhaaDoorMShapePlays33
import Derived.Test.YtgokmldngnmmhaaDoorMShapePlays29
import Derived.Test.YtgokmldngnmmhaaDoorMShapePlays7
import Derived.Test.YtgokmldngnmmhaaDoorMShapePlays25
import Derived.Test.YtgokmldngnmmhaaDoorMShapePlays2
import Derived.Test.YtgokmldngnmmhaaDoorMShapePlays13
import Derived.Test.YtgokmldngnmmhaaDoorMShapePlays16
import Derived.Test.YtgokmldngnmmhaaDoorMShapePlays35
import Derived.Test.YtgokmldngnmmhaaDoorMShapePlays15
/- Errors by their number; what Ahead tells, one way or the other; small laws of blocks. -/
namespace Go.Proofs.YtgokmldngnmmhaaDoor
open Go.RowKit
set_option maxRecDepth 100000
/-- An error of a number; 0: none. -/
def erV (k : Int) : Value := if k = 0 then .nilIface else errno k
theorem erV_errno {k : Int} (h : k ≠ 0) : erV k = errno k := if_neg h
theorem erV_inj {a b : Int} (h : erV a = erV b) : a = b := by
  unfold erV at h
  split at h <;> split at h
  · omega
  · cases h
  · cases h
  · unfold errno at h; injection h with h1 h2; injection h2
theorem AheadR.unique {u at_ : Int} {R : List Int} {c c' : Cn} {er er' : Value} (h : AheadR u at_ R c er) (h' : AheadR u at_ R c' er') : c = c' ∧ er = er' := by
  obtain ⟨h1, h2, h3⟩ := h
  obtain ⟨k1, k2, k3⟩ := h'
  by_cases hu : u < 1 ∨ 3 < u
  · exact ⟨(h1 hu).1.trans (k1 hu).1.symm, (h1 hu).2.trans (k1 hu).2.symm⟩
  · by_cases ha : at_ < 0 ∨ (cnt R).of u < at_
    · exact ⟨(h2 hu ha).1.trans (k2 hu ha).1.symm, (h2 hu ha).2.trans (k2 hu ha).2.symm⟩
    · rcases h3 hu ha with ⟨e1, e2⟩ | ⟨e1, e2, e3⟩ <;> rcases k3 hu ha with ⟨f1, f2⟩ | ⟨f1, f2, f3⟩
      · exact ⟨e2.unique (by omega) f2, e1.trans f1.symm⟩
      · exact absurd e2 (f3 _)
      · exact absurd f2 (e3 _)
      · exact ⟨e2.trans f2.symm, e1.trans f1.symm⟩
theorem cn_store {w : World} {g : Nat} {z : Cn} (h : CnBlk w g z) (c : Cn) : CnBlk ((((w.setCell ⟨g, 0, none⟩ (.int .i64 c.b)).setCell ⟨g, 1, none⟩ (.int .i64 c.h)).setCell ⟨g, 2, none⟩ (.int .i64 c.r)).setCell ⟨g, 3, none⟩ (.int .i64 c.l)) g c := by
  have h' : Blk w g 36 #[.int .i64 z.b, .int .i64 z.h, .int .i64 z.r, .int .i64 z.l] := h
  exact (((h'.set_ 0 (.int .i64 c.b)).set_ 1 (.int .i64 c.h)).set_ 2 (.int .i64 c.r)).set_ 3 (.int .i64 c.l)
theorem cn_store0 {w : World} {g : Nat} {z : Cn} (h : CnBlk w g z) : ∀ W, W = ((((w.setCell ⟨g, 0, none⟩ (.int .i64 0)).setCell ⟨g, 1, none⟩ (.int .i64 0)).setCell ⟨g, 2, none⟩ (.int .i64 0)).setCell ⟨g, 3, none⟩ (.int .i64 0)) →
    W.cell? ⟨g, 0, none⟩ = some (.int .i64 0) ∧ W.cell? ⟨g, 1, none⟩ = some (.int .i64 0) ∧ W.cell? ⟨g, 2, none⟩ = some (.int .i64 0) ∧ W.cell? ⟨g, 3, none⟩ = some (.int .i64 0) := by
  rintro W rfl
  exact (cn_store h Cn.zero).cells
theorem cn_below {w w5 : World} {x y z u : Value} (h : Below w.heap.size w w5) : Below w.heap.size w ((((w5.setCell ⟨w.heap.size, 0, none⟩ x).setCell ⟨w.heap.size, 1, none⟩ y).setCell ⟨w.heap.size, 2, none⟩ z).setCell ⟨w.heap.size, 3, none⟩ u) :=
  (((h.setCell (p := ⟨w.heap.size, 0, none⟩) (Nat.le_refl _) _).setCell (p := ⟨w.heap.size, 1, none⟩) (Nat.le_refl _) _).setCell (p := ⟨w.heap.size, 2, none⟩) (Nat.le_refl _) _).setCell (p := ⟨w.heap.size, 3, none⟩) (Nat.le_refl _) _
theorem ahead_cases {u at_ : Int} {R : List Int} {c : Cn} {er : Value} (h : AheadR u at_ R c er) : (er = .nilIface ∧ Pl u at_ R c ∧ ¬ (u < 1 ∨ 3 < u) ∧ ¬ (at_ < 0 ∨ (cnt R).of u < at_)) ∨ ∃ k, er = errno k ∧ c = Cn.zero ∧ 1 ≤ k ∧ ∀ c', ¬ (Pl u at_ R c' ∧ 1 ≤ u ∧ u ≤ 3) := by
  obtain ⟨h1, h2, h3⟩ := h
  by_cases hu : u < 1 ∨ 3 < u
  · exact .inr ⟨1, (h1 hu).2, (h1 hu).1, by omega, fun c' e => by omega⟩
  · by_cases ha : at_ < 0 ∨ (cnt R).of u < at_
    · exact .inr ⟨2, (h2 hu ha).2, (h2 hu ha).1, by omega, fun c' e => by have := e.1.range; omega⟩
    · rcases h3 hu ha with ⟨e1, e2⟩ | ⟨e1, e2, e3⟩
      · exact .inl ⟨e1, e2, hu, ha⟩
      · exact .inr ⟨10, e1, e2, by omega, fun c' e => e3 c' e.1⟩
theorem cut_cells {w : World} {g : Nat} {ty : TypeId} {x y z : Value} (h : Blk w g ty #[x, y, z]) : w.cell? ⟨g, 0, none⟩ = some x ∧ w.cell? ⟨g, 1, none⟩ = some y ∧ w.cell? ⟨g, 2, none⟩ = some z := by
  have z0 := h.cell 0
  have z1 := h.cell 1
  have z2 := h.cell 2
  simp only [List.getElem?_toArray, List.getElem?_cons_zero, List.getElem?_cons_succ] at z0 z1 z2
  exact ⟨z0, z1, z2⟩
end Go.Proofs.YtgokmldngnmmhaaDoor
/- Apply and Invert in plain Lean. -/
namespace Go.Proofs.YtgokmldngnmmhaaDoor
open Go.RowKit
def PT.ext (p : PT) : Nat := p.keep.toNat + p.drop.toNat
def wasN : List PT → Nat
  | [] => 0
  | p :: l => p.ext + wasN l
theorem wasN_append (a b : List PT) : wasN (a ++ b) = wasN a + wasN b := by
  induction a with
  | nil => simp [wasN]
  | cons p a ih => rw [List.cons_append, wasN, wasN, ih]; omega
theorem wasN_was {l : List PT} (h : ∀ p ∈ l, p.arg) : (wasN l : Int) = was l := by
  induction l with
  | nil => rfl
  | cons p l ih =>
    obtain ⟨_, h2, h3⟩ := h p (by simp)
    have := ih (fun q hq => h q (by simp [hq]))
    rw [wasN, was, PT.ext]; omega
/-- What comes, from a place on. -/
def aout (s : U.Bs) : Nat → List PT → U.Bs
  | _, [] => []
  | a, p :: l => (s.drop a).take p.keep.toNat ++ p.put ++ aout s (a + p.ext) l
/-- Every part begins and ends at runes' ends. -/
def aok (s : U.Bs) : Nat → List PT → Bool
  | _, [] => true
  | a, p :: l => (edg s a && edg s (a + p.ext)) && aok s (a + p.ext) l
theorem aout_snoc (s : U.Bs) (a : Nat) (l : List PT) (p : PT) : aout s a (l ++ [p]) = aout s a l ++ ((s.drop (a + wasN l)).take p.keep.toNat ++ p.put) := by
  induction l generalizing a with
  | nil => simp [aout, wasN]
  | cons q l ih =>
    rw [List.cons_append, aout, aout, ih, wasN, Nat.add_assoc]
    simp only [List.append_assoc]
theorem aok_snoc (s : U.Bs) (a : Nat) (l : List PT) (p : PT) : aok s a (l ++ [p]) = (aok s a l && (edg s (a + wasN l) && edg s (a + wasN l + p.ext))) := by
  induction l generalizing a with
  | nil => simp [aok, wasN]
  | cons q l ih => rw [List.cons_append, aok, aok, ih, wasN, ← Nat.add_assoc]; simp only [Bool.and_assoc]
theorem aok_take {s : U.Bs} {a : Nat} {l : List PT} (h : aok s a l = true) (k : Nat) : aok s a (l.take k) = true := by
  induction l generalizing a k with
  | nil => simp [aok]
  | cons q l ih =>
    rw [aok, Bool.and_eq_true] at h
    cases k with
    | zero => simp [aok]
    | succ k => rw [List.take_succ_cons, aok, h.1, ih h.2]; rfl
theorem aok_not {s : U.Bs} {l : List PT} {k : Nat} (hk : k < l.length) (h : (edg s (wasN (l.take k)) && edg s (wasN (l.take k) + l[k].ext)) = false) : aok s 0 l = false := by
  by_cases e : aok s 0 l = true
  · have := aok_take e (k + 1)
    rw [List.take_succ_eq_append_getElem hk, aok_snoc, Nat.zero_add, h, Bool.and_false] at this
    exact absurd this (by decide)
  · simpa using e
theorem aout_len (s : U.Bs) (a : Nat) (l : List PT) : (aout s a l).length ≤ wasN l + plen l := by
  induction l generalizing a with
  | nil => simp [aout]
  | cons p l ih =>
    have := ih (a + p.ext)
    rw [aout, wasN, plen, List.length_append, List.length_append, List.length_take]
    unfold PT.ext at *
    omega
/-- What Apply tells. -/
noncomputable def apc (l : List PT) (s : U.Bs) : Int := if chk l s.length = 0 then (if aok s 0 l = true then 0 else 10) else chk l s.length
noncomputable def apr (l : List PT) (s : U.Bs) : U.Bs := if apc l s = 0 then aout s 0 l else []
/-- What takes a part back. -/
def invp (s : U.Bs) (a : Nat) (p : PT) : PT := if p.put ≠ [] then ⟨0, p.put.length, []⟩ else if 0 < p.drop then ⟨0, 0, (s.drop a).take p.drop.toNat⟩ else p
def inv (s : U.Bs) : Nat → List PT → List PT
  | _, [] => []
  | a, p :: l => invp s a p :: inv s (a + p.ext) l
theorem inv_snoc (s : U.Bs) (a : Nat) (l : List PT) (p : PT) : inv s a (l ++ [p]) = inv s a l ++ [invp s (a + wasN l) p] := by
  induction l generalizing a with
  | nil => simp [inv, wasN]
  | cons q l ih => rw [List.cons_append, inv, inv, ih, wasN, Nat.add_assoc]; rfl
theorem inv_len (s : U.Bs) (a : Nat) (l : List PT) : (inv s a l).length = l.length := by
  induction l generalizing a with
  | nil => rfl
  | cons p l ih => rw [inv, List.length_cons, ih, List.length_cons]
theorem invp_arg {s : U.Bs} {a : Nat} {p : PT} (h : p.arg) (hb : a + p.ext ≤ s.length) : (invp s a p).arg := by
  unfold invp
  rcases h.cases with ⟨b, hb', rfl⟩ | ⟨n, hn, rfl⟩ | ⟨n, hn, rfl⟩
  · rw [if_pos hb']
    exact PT.arg_drop (by have := List.length_pos_iff.2 hb'; dsimp only; omega)
  · rw [if_neg (by simp), if_pos (by dsimp only; omega)]
    refine PT.arg_put (fun e => ?_)
    have := congrArg List.length e
    unfold PT.ext at hb
    rw [List.length_take, List.length_drop] at this
    dsimp only [List.length_nil] at this hb
    omega
  · rw [if_neg (by simp), if_neg (by dsimp only; omega)]
    exact PT.arg_keep (by omega)
theorem inv_arg {s : U.Bs} {a : Nat} {l : List PT} (h : ∀ p ∈ l, p.arg) (hb : a + wasN l ≤ s.length) : ∀ p ∈ inv s a l, p.arg := by
  induction l generalizing a with
  | nil => intro p hp; simp [inv] at hp
  | cons q l ih =>
    rw [wasN] at hb
    intro p hp
    rw [inv] at hp
    rcases List.mem_cons.1 hp with rfl | hp
    · exact invp_arg (h q (by simp)) (by omega)
    · exact ih (fun r hr => h r (by simp [hr])) (by omega) p hp
theorem inv_meas {s : U.Bs} {a : Nat} {l : List PT} (h : ∀ p ∈ l, p.arg) : was (inv s a l) ≤ was l + plen l ∧ (plen (inv s a l) : Int) ≤ was l := by
  induction l generalizing a with
  | nil => simp [inv, was, plen]
  | cons p l ih =>
    obtain ⟨i1, i2⟩ := ih (a := a + p.ext) (fun q hq => h q (by simp [hq]))
    rw [inv, was, was, plen, plen]
    have hp := h p (by simp)
    unfold invp
    rcases hp.cases with ⟨b, hb', rfl⟩ | ⟨n, hn, rfl⟩ | ⟨n, hn, rfl⟩
    · rw [if_pos hb']
      dsimp only [List.length_nil]
      omega
    · rw [if_neg (by simp), if_pos (by dsimp only; omega)]
      dsimp only [List.length_nil]
      rw [List.length_take, Int.toNat_natCast]
      omega
    · rw [if_neg (by simp), if_neg (by dsimp only; omega)]
      dsimp only [List.length_nil]
      omega
theorem e2_sum {l : List PT} {n : Int} (h : e2 n l = 0) : was l = n := by
  induction l generalizing n with
  | nil =>
    rw [e2] at h
    by_cases h0 : n = 0
    · rw [was, h0]
    · rw [if_neg h0] at h; exact absurd h (by decide)
  | cons p l ih =>
    rw [e2] at h
    by_cases hc : n < p.keep ∨ n < p.drop
    · rw [if_pos hc] at h; exact absurd h (by decide)
    · rw [if_neg hc] at h
      have := ih h
      rw [was]; omega
theorem chk_sum {l : List PT} {n : Int} (h : chk l n = 0) : was l = n := by
  unfold chk at h
  split at h
  · exact e2_sum h
  · rename_i h1; exact absurd h h1
/-- What stands behind all parts is the text's end. -/
theorem chk_was {l : List PT} {n : Nat} (h : chk l n = 0) : (∀ p ∈ l, p.Good) ∧ wasN l = n := by
  have hg := chk_good h
  refine ⟨hg, ?_⟩
  have ha : ∀ p ∈ l, p.arg := fun p hp => (hg p hp).1
  have := wasN_was ha
  have := chk_sum h
  omega
end Go.Proofs.YtgokmldngnmmhaaDoor
/- Norm of an operation over runes; what it makes of the bytes. Plain. -/
namespace Go.Proofs.YtgokmldngnmmhaaDoor
/-- Norm's state, rune by rune: A what stands and is put, c how many are dropped behind it, S the runes gone through. -/
structure NRs (s : NS) (A : List (RU Int)) (c : Nat) (S : List Int) : Prop where
  ex : ∃ X0 R0 ps ds, S = R0 ++ ds ∧ A = X0 ++ ps.map .p ∧ c = ds.length ∧ s.put = U.encs ps ∧ U.AllR ps ∧ s.drop = bl ds ∧ OpR s.out X0 R0
  last : s.out = [] ∨ ∃ i k, 0 < k ∧ s.out = i ++ [⟨k, 0, []⟩]
theorem opR_more {i : List PT} {k0 : Int} {X : List (RU Int)} {R rs : List Int} (hk : 0 < k0) (_hr : rs ≠ []) (h : OpR (i ++ [⟨k0, 0, []⟩]) X R) : OpR (i ++ [⟨k0 + bl rs, 0, []⟩]) (X ++ List.replicate rs.length .k) (R ++ rs) := by
  induction i generalizing X R with
  | nil =>
    rw [List.nil_append] at h ⊢
    generalize hl : [(⟨k0, 0, []⟩ : PT)] = l at h
    cases h with
    | nil => simp at hl
    | put h1 h2 h3 =>
      simp only [List.cons.injEq, PT.mk.injEq] at hl
      omega
    | @keep qs l X R h1 h3 =>
      simp only [List.cons.injEq, PT.mk.injEq] at hl
      obtain ⟨⟨e, -⟩, rfl⟩ := hl
      cases h3
      have hn : qs ++ rs ≠ [] := by simp [h1]
      have := OpR.keep hn OpR.nil
      rw [List.append_nil, List.append_nil] at this
      rw [List.append_nil, List.append_nil, List.replicate_append_replicate, ← List.length_append]
      rw [bl_append] at this
      rw [e, show ((bl qs : Int) + (bl rs : Int)) = ((bl qs + bl rs : Nat) : Int) by omega]
      exact this
    | drop h1 h3 =>
      simp only [List.cons.injEq, PT.mk.injEq] at hl
      omega
  | cons p i ih =>
    rw [List.cons_append] at h ⊢
    generalize hl : p :: (i ++ [(⟨k0, 0, []⟩ : PT)]) = l at h
    cases h with
    | nil => simp at hl
    | put h1 h2 h3 =>
      simp only [List.cons.injEq] at hl
      obtain ⟨rfl, rfl⟩ := hl
      rw [List.append_assoc]
      exact .put h1 h2 (ih h3)
    | keep h1 h3 =>
      simp only [List.cons.injEq] at hl
      obtain ⟨rfl, rfl⟩ := hl
      rw [List.append_assoc, List.append_assoc]
      exact .keep h1 (ih h3)
    | drop h1 h3 =>
      simp only [List.cons.injEq] at hl
      obtain ⟨rfl, rfl⟩ := hl
      rw [List.append_assoc, List.append_assoc]
      exact .drop h1 (ih h3)
theorem opR_flush {ps ds : List Int} (h : U.AllR ps) : OpR (flushP (U.encs ps) (bl ds)) (ps.map .p ++ List.replicate ds.length .d) ds := by
  unfold flushP
  have h2 : OpR (if (0 : Int) < (bl ds : Int) then [⟨0, (bl ds : Int), []⟩] else []) (List.replicate ds.length .d) ds := by
    by_cases hd : ds = []
    · subst hd
      rw [if_neg (by simp)]
      exact .nil
    · have := bl_pos hd
      rw [if_pos (by omega)]
      have := OpR.drop hd OpR.nil
      rwa [List.append_nil, List.append_nil] at this
  by_cases hp : ps = []
  · subst hp
    rw [if_pos U.encs_nil]
    exact h2
  · rw [if_neg (encs_ne hp)]
    exact .put hp h h2
theorem NRs.all_ {s : NS} {A : List (RU Int)} {c : Nat} {S : List Int} (h : NRs s A c S) : OpR s.all (A ++ List.replicate c .d) S := by
  obtain ⟨X0, R0, ps, ds, rfl, rfl, rfl, h1, h2, h3, h4⟩ := h.ex
  unfold NS.all
  rw [h1, h3, List.append_assoc]
  exact h4.append (opR_flush h2)
theorem NRs.zero : NRs .zero [] 0 [] := ⟨⟨[], [], [], [], rfl, rfl, rfl, rfl, fun r hr => by simp at hr, rfl, .nil⟩, .inl rfl⟩
theorem NRs.put_ {s : NS} {A : List (RU Int)} {c : Nat} {S : List Int} (h : NRs s A c S) {r : Int} (hr : U.right r = true) : NRs ⟨s.out, s.put ++ U.enc r, s.drop⟩ (A ++ [.p r]) c S := by
  obtain ⟨⟨X0, R0, ps, ds, e1, rfl, e3, h1, h2, h3, h4⟩, hl⟩ := h
  refine ⟨⟨X0, R0, ps ++ [r], ds, e1, by simp, e3, ?_, ?_, h3, h4⟩, hl⟩
  · dsimp only; rw [h1, U.encs_append, U.encs_cons, U.encs_nil, List.append_nil]
  · intro x hx
    rcases List.mem_append.1 hx with hx | hx
    · exact h2 x hx
    · obtain rfl := List.mem_singleton.1 hx; exact hr
theorem NRs.drop_ {s : NS} {A : List (RU Int)} {c : Nat} {S : List Int} (h : NRs s A c S) (q : Int) : NRs ⟨s.out, s.put, s.drop + (U.wid q : Nat)⟩ A (c + 1) (S ++ [q]) := by
  obtain ⟨⟨X0, R0, ps, ds, e1, rfl, e3, h1, h2, h3, h4⟩, hl⟩ := h
  refine ⟨⟨X0, R0, ps, ds ++ [q], by rw [e1, List.append_assoc], rfl, by simp [e3], h1, h2, ?_, h4⟩, hl⟩
  dsimp only
  rw [h3, bl_append, bl_cons, bl_nil]; omega
theorem NRs.keep_ {s : NS} {A : List (RU Int)} {c : Nat} {S : List Int} (h : NRs s A c S) (q : Int) : NRs (s.kept ⟨(U.wid q : Nat), 0, []⟩) (A ++ List.replicate c .d ++ [.k]) 0 (S ++ [q]) := by
  have hw := U.wid_pos q
  have hq : bl [q] = U.wid q := by rw [bl_cons, bl_nil]; omega
  unfold NS.kept
  split
  · rename_i hc
    refine ⟨⟨A ++ List.replicate c .d ++ [.k], S ++ [q], [], [], by simp, by simp, rfl, rfl, fun r hr => by simp at hr, rfl, ?_⟩, .inr ⟨s.all, (U.wid q : Nat), by omega, rfl⟩⟩
    refine h.all_.append ?_
    have := OpR.keep (rs := [q]) (by simp) OpR.nil
    rw [hq] at this
    exact this
  · rename_i hc
    obtain ⟨⟨X0, R0, ps, ds, rfl, rfl, rfl, h1, h2, h3, h4⟩, hl⟩ := h
    have e1 : ps = [] := by
      by_cases e : ps = []
      · exact e
      · exact absurd (.inl (by rw [h1]; exact encs_ne e)) hc
    have e2 : ds = [] := by
      by_cases e : ds = []
      · exact e
      · exact absurd (.inr (.inl (by rw [h3]; have := bl_pos e; omega))) hc
    subst e1 e2
    rcases hl with hl | ⟨i, k, hk, hl⟩
    · exact absurd (.inr (.inr hl)) hc
    · rw [hl, moreLast_snoc]
      rw [hl] at h4
      have := opR_more (rs := [q]) hk (by simp) h4
      rw [hq] at this
      refine ⟨⟨X0 ++ [.k], R0 ++ [q], [], [], by simp, by simp, rfl, rfl, fun r hr => by simp at hr, rfl, this⟩, .inr ⟨i, k + (U.wid q : Nat), by omega, rfl⟩⟩
def AllP (X : List (RU Int)) : Prop := ∀ r, .p r ∈ X → U.right r = true
theorem nrun_bexp {X : List (RU Int)} {R : List Int} (hx : rwas X = R.length) (hp : AllP X) {s : NS} {A : List (RU Int)} {c : Nat} {S : List Int} (h : NRs s A c S) : OpR (nrun s (bexp X R)).all (A ++ rnm c X) (S ++ R) := by
  induction X generalizing R s A c S with
  | nil =>
    obtain rfl : R = [] := List.length_eq_zero_iff.1 hx.symm
    rw [bexp]
    · rw [nrun_nil, List.append_nil]; exact h.all_
    all_goals simp
  | cons x X ih =>
    have hp' : AllP X := fun r hr => hp r (List.mem_cons_of_mem _ hr)
    cases x with
    | p r =>
      rw [bexp, nrun_append, nrun_bytes, rnm]
      have := ih hx hp' (h.put_ (hp r (by simp)))
      rwa [List.append_assoc] at this
    | k =>
      cases R with
      | nil => simp [rwas] at hx
      | cons q R =>
        obtain ⟨n, hn⟩ := wid_succ q
        rw [bexp, nrun_append, hn, nrun_k1, rnm]
        have h2 := h.keep_ q
        rw [hn] at h2
        have := ih (by simpa [rwas] using hx) hp' h2
        rw [show ((n + 1 : Nat) : Int) = (n : Int) + 1 by omega] at this
        simpa [List.append_assoc] using this
    | d =>
      cases R with
      | nil => simp [rwas] at hx
      | cons q R =>
        rw [bexp, nrun_append, nrun_d1, rnm]
        have := ih (by simpa [rwas] using hx) hp' (h.drop_ q)
        simpa [List.append_assoc] using this
theorem urun_bexp {X : List (RU Int)} {R : List Int} (hx : rwas X = R.length) (hp : AllP X) : OpR (urun (bexp X R)) (rnm 0 X) R := nrun_bexp hx hp NRs.zero
theorem OpR.allP {l : List PT} {X : List (RU Int)} {R : List Int} (h : OpR l X R) : AllP X := by
  induction h with
  | nil => intro r hr; simp at hr
  | put h1 h2 _ ih =>
    intro r hr
    rcases List.mem_append.1 hr with hr | hr
    · obtain ⟨a, ha, e⟩ := List.mem_map.1 hr
      cases e
      exact h2 _ ha
    · exact ih r hr
  | keep h1 _ ih =>
    intro r hr
    rcases List.mem_append.1 hr with hr | hr
    · have := List.eq_of_mem_replicate hr; cases this
    · exact ih r hr
  | drop h1 _ ih =>
    intro r hr
    rcases List.mem_append.1 hr with hr | hr
    · have := List.eq_of_mem_replicate hr; cases this
    · exact ih r hr
theorem OpR.norm_ {l : List PT} {X : List (RU Int)} {R : List Int} (h : OpR l X R) : OpR (norm l) (rnm 0 X) R := by
  rw [norm_urun (fun p hp => (h.arg p hp).1), h.expand_]
  exact urun_bexp h.was_ h.allP
/-- Nothing is wrong with it over the runes' bytes. -/
theorem e2_ok {l : List PT} (h : ∀ p ∈ l, p.arg) {n : Int} (hn : was l = n) : e2 n l = 0 := by
  induction l generalizing n with
  | nil => rw [e2, if_pos (by rw [← hn]; rfl)]
  | cons p l ih =>
    have hp := (h p (by simp)).2
    have hl : 0 ≤ was l := was_nn (fun q hq => h q (by simp [hq]))
    rw [was] at hn
    rw [e2, if_neg (by omega)]
    exact ih (fun q hq => h q (by simp [hq])) (by omega)
theorem OpR.chk_ {l : List PT} {X : List (RU Int)} {R : List Int} (h : OpR l X R) : chk l (bl R) = 0 := by
  unfold chk
  rw [e1_good h.arg, if_pos rfl]
  exact e2_ok (fun p hp => (h.arg p hp).1) h.sizes.1
theorem edg_redg' (s : U.Bs) (a : Nat) : edg s a = redg s a := by
  unfold edg redg U.at_
  rfl
theorem edg_cut {P Q : List Int} (h : U.AllR (P ++ Q)) : edg (U.encs (P ++ Q)) (bl P) = true := by
  rw [edg_redg', redg_iff h (by simp)]
  exact ⟨P, Q, rfl, rfl⟩
theorem encs_mid (P rs R : List Int) : ((U.encs (P ++ (rs ++ R))).drop (bl P)).take (bl rs) = U.encs rs := by
  rw [U.encs_append, U.encs_append]
  unfold bl
  rw [List.drop_left, List.take_left]
/-- What it makes of them. -/
theorem OpR.runs {l : List PT} {X : List (RU Int)} {R : List Int} (h : OpR l X R) (P : List Int) (hP : U.AllR (P ++ R)) :
    aok (U.encs (P ++ R)) (bl P) l = true ∧ aout (U.encs (P ++ R)) (bl P) l = U.encs (rap X R) := by
  induction h generalizing P with
  | nil => exact ⟨rfl, rfl⟩
  | @put rs l X R h1 h2 _ ih =>
    obtain ⟨i1, i2⟩ := ih P hP
    have e := edg_cut hP
    have er : rap (rs.map .p ++ X) R = rs ++ rap X R := by
      clear h1 h2 ih i1 i2
      induction rs with
      | nil => rfl
      | cons r rs ih2 => simp only [List.map_cons, List.cons_append, rap, ih2]
    have hx : (⟨0, 0, U.encs rs⟩ : PT).ext = 0 := rfl
    rw [aok, aout, hx, Nat.add_zero, e, i1, i2, er, U.encs_append rs (rap X R)]
    simp
  | @keep rs l X R h1 _ ih =>
    have hP2 : U.AllR ((P ++ rs) ++ R) := by rwa [List.append_assoc]
    obtain ⟨i1, i2⟩ := ih (P ++ rs) hP2
    have e := edg_cut hP
    have e2 := edg_cut hP2
    have er : rap (List.replicate rs.length .k ++ X) (rs ++ R) = rs ++ rap X R := by
      clear h1 ih i1 i2 hP hP2 e e2
      induction rs with
      | nil => rfl
      | cons r rs ih2 => simp only [List.length_cons, List.replicate_succ, List.cons_append, rap, ih2]
    have hx : (⟨(bl rs : Int), 0, []⟩ : PT).ext = bl rs := by simp [PT.ext]
    rw [List.append_assoc] at i1 i2 e2
    rw [bl_append] at i1 i2 e2
    rw [aok, aout, hx, e, e2, i1, i2, er, U.encs_append rs (rap X R)]
    simp [encs_mid]
  | @drop rs l X R h1 _ ih =>
    have hP2 : U.AllR ((P ++ rs) ++ R) := by rwa [List.append_assoc]
    obtain ⟨i1, i2⟩ := ih (P ++ rs) hP2
    have e := edg_cut hP
    have e2 := edg_cut hP2
    have er : rap (List.replicate rs.length .d ++ X) (rs ++ R) = rap X R := by
      clear h1 ih i1 i2 hP hP2 e e2
      induction rs with
      | nil => rfl
      | cons r rs ih2 => simp only [List.length_cons, List.replicate_succ, List.cons_append, rap, ih2]
    have hx : (⟨0, (bl rs : Int), []⟩ : PT).ext = bl rs := by simp [PT.ext]
    rw [List.append_assoc] at i1 i2 e2
    rw [bl_append] at i1 i2 e2
    rw [aok, aout, hx, e, e2, i1, i2, er]
    simp
theorem OpR.apply {l : List PT} {X : List (RU Int)} {R : List Int} (h : OpR l X R) (hR : U.AllR R) : apc l (U.encs R) = 0 ∧ apr l (U.encs R) = U.encs (rap X R) := by
  obtain ⟨h1, h2⟩ := h.runs [] hR
  have hc := h.chk_
  have h0 : apc l (U.encs R) = 0 := by
    unfold apc
    rw [show ((U.encs R).length : Int) = (bl R : Int) from rfl, hc, if_pos rfl]
    exact if_pos h1
  refine ⟨h0, ?_⟩
  unfold apr
  rw [if_pos h0]
  exact h2
theorem rap_all {X : List (RU Int)} {R : List Int} (hp : AllP X) (hR : U.AllR R) : U.AllR (rap X R) := by
  induction X generalizing R with
  | nil => intro r hr; simp [rap] at hr
  | cons x X ih =>
    have hp' : AllP X := fun r hr => hp r (List.mem_cons_of_mem _ hr)
    cases x with
    | p r =>
      intro q hq
      rw [rap] at hq
      rcases List.mem_cons.1 hq with rfl | hq
      · exact hp _ (by simp)
      · exact ih hp' hR q hq
    | k => cases R with
      | nil => intro q hq; simp [rap] at hq
      | cons s R =>
        intro q hq
        rw [rap] at hq
        rcases List.mem_cons.1 hq with rfl | hq
        · exact hR _ (by simp)
        · exact ih hp' (fun x hx => hR x (by simp [hx])) q hq
    | d => cases R with
      | nil => intro q hq; simp [rap] at hq
      | cons s R => rw [rap]; exact ih hp' (fun x hx => hR x (by simp [hx]))
theorem rtr_mem {first : Bool} {X Y : List (RU Int)} {r : Int} (h : .p r ∈ rtr first X Y) : .p r ∈ X := by
  generalize hm : X.length + Y.length = m
  induction m using Nat.strongRecOn generalizing X Y with
  | _ m ih =>
    have step : ∀ (X' Y' : List (RU Int)), X'.length + Y'.length < m → .p r ∈ rtr first X' Y' → .p r ∈ X' := fun X' Y' h1 h2 => ih _ h1 h2 rfl
    clear ih
    match X, Y with
    | [], [] => simp [rtr] at h
    | .p s :: X, [] => have := step X [] (by simp at hm ⊢; omega); rw [rtr] at h <;> simp_all <;> (rcases h with h | h <;> simp_all)
    | [], .p s :: Y => have := step [] Y (by simp at hm ⊢; omega); simp_all [rtr]
    | .k :: X, [] => simp [rtr] at h
    | .d :: X, [] => simp [rtr] at h
    | [], .k :: X => simp [rtr] at h
    | [], .d :: X => simp [rtr] at h
    | .p s :: X, .p q :: Y =>
      cases first with
      | true => have := step X (.p q :: Y) (by simp at hm ⊢; omega); rw [rtr] at h <;> simp_all <;> (rcases h with h | h <;> simp_all)
      | false => have := step (.p s :: X) Y (by simp at hm ⊢; omega); simp_all [rtr]
    | .p s :: X, .k :: Y => have := step X (.k :: Y) (by simp at hm ⊢; omega); rw [rtr] at h <;> simp_all <;> (rcases h with h | h <;> simp_all)
    | .p s :: X, .d :: Y => have := step X (.d :: Y) (by simp at hm ⊢; omega); rw [rtr] at h <;> simp_all <;> (rcases h with h | h <;> simp_all)
    | .k :: X, .p s :: Y => have := step (.k :: X) Y (by simp at hm ⊢; omega); simp_all [rtr]
    | .d :: X, .p s :: Y => have := step (.d :: X) Y (by simp at hm ⊢; omega); simp_all [rtr]
    | .k :: X, .k :: Y => have := step X Y (by simp at hm ⊢; omega); simp_all [rtr]
    | .k :: X, .d :: Y => have := step X Y (by simp at hm ⊢; omega); simp_all [rtr]
    | .d :: X, .k :: Y => have := step X Y (by simp at hm ⊢; omega); simp_all [rtr]
    | .d :: X, .d :: Y => have := step X Y (by simp at hm ⊢; omega); simp_all [rtr]
end Go.Proofs.YtgokmldngnmmhaaDoor
/- A document's units: where runes are cut. Plain. -/
namespace Go.Proofs.YtgokmldngnmmhaaDoor
theorem nat_and_high (n : Nat) (h : n < 65536) : n &&& 64512 = n / 1024 * 1024 := by
  apply Nat.eq_of_testBit_eq
  intro i
  have e1 : n / 1024 * 1024 = (n >>> 10) <<< 10 := by rw [Nat.shiftLeft_eq, Nat.shiftRight_eq_div_pow]
  have e2 : (64512 : Nat) = (2 ^ 6 - 1) <<< 10 := by decide
  rw [Nat.testBit_and, e1, e2, Nat.testBit_shiftLeft, Nat.testBit_shiftLeft, Nat.testBit_two_pow_sub_one, Nat.testBit_shiftRight]
  by_cases h1 : 10 ≤ i
  · have e3 : 10 + (i - 10) = i := by omega
    rw [e3]
    by_cases h2 : i < 16
    · simp [h1]; omega
    · have : n.testBit i = false := Nat.testBit_lt_two_pow (Nat.lt_of_lt_of_le h (by have := Nat.pow_le_pow_right (n := 2) (by decide) (by omega : 16 ≤ i); exact this))
      rw [this]; simp
  · simp [h1]
theorem and64512 {x : Int} (h : 0 ≤ x ∧ x < 65536) : bits .and .u16 x 64512 = x / 1024 * 1024 := by
  obtain ⟨n, rfl⟩ := Int.eq_ofNat_of_zero_le h.1
  have e := nat_and_high n (by omega)
  have h1 : ((n : Int).toNat) = n := by omega
  show IntKind.u16.wrap ((BitVec.ofInt 16 (n : Int) &&& BitVec.ofInt 16 64512).toNat : Int) = _
  rw [BitVec.toNat_and]
  have e1 : (BitVec.ofInt 16 (n : Int)).toNat = n := by simp; omega
  have e2 : (BitVec.ofInt 16 64512).toNat = 64512 := by decide
  rw [e1, e2, e]
  unfold IntKind.wrap
  simp [IntKind.signed, IntKind.bits]
  omega
theorem getD_l {α : Type} {a b : List α} {k : Nat} {d : α} (h : k < a.length) : (a ++ b).getD k d = a.getD k d := by
  rw [List.getD_eq_getElem?_getD, List.getD_eq_getElem?_getD, List.getElem?_append_left h]
theorem getD_r {α : Type} {a b : List α} {k : Nat} {d : α} (h : a.length ≤ k) : (a ++ b).getD k d = b.getD (k - a.length) d := by
  rw [List.getD_eq_getElem?_getD, List.getD_eq_getElem?_getD, List.getElem?_append_right h]
/-- A half that is the first of two. -/
def isHigh (x : Int) : Bool := decide (55296 ≤ x ∧ x < 56320)
/-- A place of halves within a rune. -/
def hInner (l : List Int) (a : Nat) : Bool := decide (0 < a) && decide (a < l.length) && isHigh (l.getD (a - 1) 0)
theorem hv_getD_last {r : Int} (h : U.right r = true) : isHigh ((U.hv r).getD (U.hwid r - 1) 0) = false := by
  have hr := U.right_iff.1 h
  unfold U.hv U.hwid isHigh
  split
  · rw [decide_eq_false_iff_not]; simp; omega
  · rw [decide_eq_false_iff_not]; simp; omega
theorem hv_getD_first {r : Int} (h : U.right r = true) (h2 : U.hwid r = 2) : isHigh ((U.hv r).getD 0 0) = true := by
  have hr := U.right_iff.1 h
  unfold U.hwid at h2
  split at h2
  · omega
  · rename_i h3
    unfold U.hv isHigh
    rw [if_neg h3, decide_eq_true_iff]; simp; omega
theorem hInner_iff {R : List Int} (h : U.AllR R) {a : Nat} (ha : a ≤ (U.hvs R).length) : hInner (U.hvs R) a = false ↔ ∃ p q, R = p ++ q ∧ (U.hvs p).length = a := by
  induction R generalizing a with
  | nil =>
    have : a = 0 := by simpa [U.hvs_nil] using ha
    subst this
    exact ⟨fun _ => ⟨[], [], rfl, rfl⟩, fun _ => by simp [hInner]⟩
  | cons r R ih =>
    have hr := h r (by simp)
    have hR : U.AllR R := fun x hx => h x (by simp [hx])
    have hw := U.hwid_pos r
    have hw2 := U.hwid_le r
    have hl : (U.hvs (r :: R)).length = U.hwid r + (U.hvs R).length := by rw [U.hvs_cons, List.length_append, U.hv_length]
    by_cases h0 : a = 0
    · subst h0
      exact ⟨fun _ => ⟨[], r :: R, rfl, rfl⟩, fun _ => by simp [hInner]⟩
    · by_cases h1 : a < U.hwid r
      · have h2 : U.hwid r = 2 := by omega
        have h3 : a = 1 := by omega
        subst h3
        have e : (U.hvs (r :: R)).getD (1 - 1) 0 = (U.hv r).getD 0 0 := by
          rw [U.hvs_cons, getD_l (by rw [U.hv_length]; omega)]
        constructor
        · intro hi
          unfold hInner at hi
          rw [e, hv_getD_first hr h2, decide_eq_true (by omega), decide_eq_true (by omega)] at hi
          cases hi
        · rintro ⟨p, q, e1, e2⟩
          cases p with
          | nil => simp [U.hvs_nil] at e2
          | cons x p =>
            rw [List.cons_append] at e1
            obtain ⟨rfl, -⟩ := List.cons.inj e1
            rw [U.hvs_cons, List.length_append, U.hv_length] at e2
            omega
      · obtain ⟨b, rfl⟩ : ∃ b, a = U.hwid r + b := ⟨a - U.hwid r, by omega⟩
        have hb : b ≤ (U.hvs R).length := by omega
        have key : hInner (U.hvs (r :: R)) (U.hwid r + b) = hInner (U.hvs R) b := by
          unfold hInner
          rw [hl]
          by_cases hb0 : b = 0
          · subst hb0
            have e : (U.hvs (r :: R)).getD (U.hwid r + 0 - 1) 0 = (U.hv r).getD (U.hwid r - 1) 0 := by
              rw [U.hvs_cons, Nat.add_zero, getD_l (by rw [U.hv_length]; omega)]
            rw [e, hv_getD_last hr]
            simp
          · have e : (U.hvs (r :: R)).getD (U.hwid r + b - 1) 0 = (U.hvs R).getD (b - 1) 0 := by
              rw [U.hvs_cons, getD_r (by rw [U.hv_length]; omega), U.hv_length]
              congr 1; omega
            rw [e]
            have e1 : decide (0 < U.hwid r + b) = decide (0 < b) := decide_eq_decide.2 (by omega)
            have e2 : decide (U.hwid r + b < U.hwid r + (U.hvs R).length) = decide (b < (U.hvs R).length) := decide_eq_decide.2 (by omega)
            rw [e1, e2]
        rw [key, ih hR hb]
        constructor
        · rintro ⟨p, q, rfl, e⟩
          exact ⟨r :: p, q, rfl, by rw [U.hvs_cons, List.length_append, U.hv_length, e]⟩
        · rintro ⟨p, q, e1, e2⟩
          cases p with
          | nil => simp [U.hvs_nil] at e2; omega
          | cons x p =>
            rw [List.cons_append] at e1
            obtain ⟨rfl, rfl⟩ := List.cons.inj e1
            rw [U.hvs_cons, List.length_append, U.hv_length] at e2
            exact ⟨p, q, rfl, by omega⟩
end Go.Proofs.YtgokmldngnmmhaaDoor
/- An operation in other units, in plain Lean. -/
namespace Go.Proofs.YtgokmldngnmmhaaDoor
open Go.RowKit
/-- What Ahead tells, as a function. -/
noncomputable def ah (u at_ : Int) (R : List Int) : Cn × Int := by
  classical
  exact if h : ∃ x : Cn × Int, AheadR u at_ R x.1 (erV x.2) then Classical.choose h else (Cn.zero, 0)
theorem ah_eq {u at_ : Int} {R : List Int} {c : Cn} {k : Int} (h : AheadR u at_ R c (erV k)) : ah u at_ R = (c, k) := by
  have hx : ∃ x : Cn × Int, AheadR u at_ R x.1 (erV x.2) := ⟨(c, k), h⟩
  have h2 := Classical.choose_spec hx
  obtain ⟨e1, e2⟩ := h2.unique h
  unfold ah
  rw [dif_pos hx]
  exact Prod.ext e1 (erV_inj e2)
/-- A part, turned: its own number by the other unit. -/
def tnP (p : PT) (x : Int) : PT := if 0 < p.keep then ⟨x, p.drop, p.put⟩ else if 0 < p.drop then ⟨p.keep, x, p.put⟩ else p
/-- An operation, turned, from a place on; and what is told. -/
noncomputable def tnF (R : List Int) (u tu : Int) : Cn → Int → List PT → List PT × Int
  | _, _, [] => ([], 0)
  | c, a, p :: l => if (ah u (a + (p.keep + p.drop)) R).2 = 0
    then (tnP p ((ah u (a + (p.keep + p.drop)) R).1.of tu - c.of tu) :: (tnF R u tu (ah u (a + (p.keep + p.drop)) R).1 (a + (p.keep + p.drop)) l).1, (tnF R u tu (ah u (a + (p.keep + p.drop)) R).1 (a + (p.keep + p.drop)) l).2)
    else ([], (ah u (a + (p.keep + p.drop)) R).2)
theorem tnF_stop {R : List Int} {u tu a k : Int} {c c' : Cn} {p : PT} {l : List PT} (h : AheadR u (a + (p.keep + p.drop)) R c' (erV k)) (hk : k ≠ 0) : tnF R u tu c a (p :: l) = ([], k) := by
  rw [tnF, ah_eq h, if_neg hk]
theorem tnF_step {R : List Int} {u tu a : Int} {c c' : Cn} {p : PT} {l : List PT} (h : AheadR u (a + (p.keep + p.drop)) R c' (erV 0)) :
    tnF R u tu c a (p :: l) = (tnP p (c'.of tu - c.of tu) :: (tnF R u tu c' (a + (p.keep + p.drop)) l).1, (tnF R u tu c' (a + (p.keep + p.drop)) l).2) := by
  rw [tnF, ah_eq h, if_pos rfl]
theorem tnP_put (b : U.Bs) (x : Int) : tnP ⟨0, 0, b⟩ x = ⟨0, 0, b⟩ := rfl
theorem tnP_drop {n : Nat} (h : 0 < n) (x : Int) : tnP ⟨0, n, []⟩ x = ⟨0, x, []⟩ := by
  have h1 : (0 : Int) < n := by omega
  unfold tnP
  rw [if_neg (by simp), if_pos h1]
theorem tnP_keep {n : Nat} (h : 0 < n) (x : Int) : tnP ⟨n, 0, []⟩ x = ⟨x, 0, []⟩ := by
  have h1 : (0 : Int) < n := by omega
  unfold tnP
  rw [if_pos h1]
theorem e1_all {l : List PT} (h : e1 l = 0) : ∀ p ∈ l, p.Good := by
  induction l with
  | nil => intro p hp; simp at hp
  | cons p l ih =>
    unfold e1 at h
    split at h
    · exact absurd h (by decide)
    · rename_i h1
      split at h
      · exact absurd h (by decide)
      · rename_i h2
        intro q hq
        rcases List.mem_cons.1 hq with rfl | hq
        · exact ⟨Classical.not_not.1 h1, Classical.not_not.1 h2⟩
        · exact ih h q hq
theorem e2_was {l : List PT} {n : Int} (h : e2 n l = 0) : was l = n := by
  induction l generalizing n with
  | nil => unfold e2 at h; rw [was]; split at h <;> omega
  | cons p l ih =>
    unfold e2 at h
    split at h
    · omega
    · rw [was, ih h]; omega
theorem chk_zero {l : List PT} {n : Int} (h : chk l n = 0) : (∀ p ∈ l, p.Good) ∧ was l = n := by
  unfold chk at h
  split at h
  · rename_i h1; exact ⟨e1_all h1, e2_was h⟩
  · rename_i h1; exact absurd h h1
theorem tn_nn {l : List PT} (h : ∀ p ∈ l, p.Good) : 0 ≤ was l := by
  induction l with
  | nil => exact Int.le_refl _
  | cons p l ih =>
    have := (h p (by simp)).1
    have h2 := ih fun q hq => h q (List.mem_cons_of_mem _ hq)
    have h3 := this.2
    rw [was]; omega
/-- Where the loop of a turn is. -/
structure TnI (R : List Int) (u tu : Int) (l : List PT) (m : Int) (k : Nat) (c : Cn) (a : Int) (o : List PT) : Prop where
  k_le : k ≤ l.length
  out : (tnF R u tu Cn.zero 0 l).1 = o ++ (tnF R u tu c a (l.drop k)).1
  err : (tnF R u tu Cn.zero 0 l).2 = (tnF R u tu c a (l.drop k)).2
  len : o.length = k
  a0 : 0 ≤ a
  tot : a + was (l.drop k) = m
  c0 : 0 ≤ c.of tu
  c1 : c.of tu ≤ 1000000
theorem tn_zero (u : Int) : Cn.zero.of u = 0 := by unfold Cn.of; (repeat' split) <;> rfl
theorem TnI.start {R : List Int} {u tu m : Int} {l : List PT} (h : was l = m) : TnI R u tu l m 0 Cn.zero 0 [] :=
  ⟨Nat.zero_le _, rfl, rfl, rfl, Int.le_refl _, by rw [List.drop_zero]; omega, by rw [tn_zero]; exact Int.le_refl _, by rw [tn_zero]; decide⟩
theorem tn_drop {l : List PT} {k : Nat} (hk : k < l.length) : l.drop k = l[k] :: l.drop (k + 1) := List.drop_eq_getElem_cons hk
theorem TnI.bound {R : List Int} {u tu m : Int} {l : List PT} {k : Nat} {c : Cn} {a : Int} {o : List PT} (h : TnI R u tu l m k c a o) (hg : ∀ p ∈ l, p.Good) (hk : k < l.length) : 0 ≤ a + (l[k].keep + l[k].drop) ∧ a + (l[k].keep + l[k].drop) ≤ m ∧ a ≤ m := by
  have h1 := h.tot
  have h2 := tn_nn (l := l.drop (k + 1)) fun p hp => hg p (List.mem_of_mem_drop hp)
  have h3 := (hg _ (List.getElem_mem hk)).1.2
  have h4 := h.a0
  rw [tn_drop hk, was] at h1
  omega
theorem TnI.stop {R : List Int} {u tu m : Int} {l : List PT} {k : Nat} {c c' : Cn} {a e : Int} {o : List PT} (h : TnI R u tu l m k c a o) (hk : k < l.length) (hA : AheadR u (a + (l[k].keep + l[k].drop)) R c' (erV e)) (he : e ≠ 0) : (tnF R u tu Cn.zero 0 l).2 = e := by
  rw [h.err, tn_drop hk, tnF_stop hA he]
theorem AheadR.nil {u at_ : Int} {R : List Int} {c : Cn} (h : AheadR u at_ R c (erV 0)) : Pl u at_ R c := by
  rcases ahead_cases h with ⟨-, hp, -⟩ | ⟨k, e, -, hk, -⟩
  · exact hp
  · exact absurd e (by intro e; cases e)
theorem TnI.step {R : List Int} {u tu m : Int} {l : List PT} {k : Nat} {c c' : Cn} {a : Int} {o : List PT} (h : TnI R u tu l m k c a o) (hg : ∀ p ∈ l, p.Good) (hk : k < l.length) (hR : R.length ≤ 100000) (hA : AheadR u (a + (l[k].keep + l[k].drop)) R c' (erV 0)) :
    TnI R u tu l m (k + 1) c' (a + (l[k].keep + l[k].drop)) (o ++ [tnP l[k] (c'.of tu - c.of tu)]) := by
  have hb := h.bound hg hk
  obtain ⟨p, q, e1, -, rfl⟩ := hA.nil
  have hpl : p.length ≤ 100000 := by have := congrArg List.length e1; rw [List.length_append] at this; omega
  refine ⟨by omega, ?_, ?_, by rw [List.length_append, h.len]; rfl, hb.1, ?_, of_nn _ _, ?_⟩
  · rw [h.out, tn_drop hk, tnF_step hA, List.append_assoc]; rfl
  · rw [h.err, tn_drop hk, tnF_step hA]
  · have := h.tot; rw [tn_drop hk, was] at this; omega
  · have := of_le (rs := p) (Nat.le_refl _) tu; omega
theorem TnI.finish {R : List Int} {u tu m : Int} {l : List PT} {k : Nat} {c : Cn} {a : Int} {o : List PT} (h : TnI R u tu l m k c a o) (hk : k = l.length) : (tnF R u tu Cn.zero 0 l).1 = o ∧ (tnF R u tu Cn.zero 0 l).2 = 0 := by
  have h1 := h.out
  have h2 := h.err
  rw [hk, List.drop_length, tnF] at h1 h2
  exact ⟨by rw [h1, List.append_nil], h2⟩
/-- What a turn tells. -/
def TnR (R : List Int) (l : List PT) (u tu : Int) (o : List PT) (k : Int) : Prop :=
  (¬ ((1 ≤ u ∧ u ≤ 3) ∧ (1 ≤ tu ∧ tu ≤ 3)) → o = [] ∧ k = 1) ∧
  (((1 ≤ u ∧ u ≤ 3) ∧ (1 ≤ tu ∧ tu ≤ 3)) → chk l ((cnt R).of u) ≠ 0 → o = [] ∧ k = chk l ((cnt R).of u)) ∧
  (((1 ≤ u ∧ u ≤ 3) ∧ (1 ≤ tu ∧ tu ≤ 3)) → chk l ((cnt R).of u) = 0 → k = (tnF R u tu Cn.zero 0 l).2 ∧ o = if k = 0 then (tnF R u tu Cn.zero 0 l).1 else [])
theorem TnR.unique {R : List Int} {l o o' : List PT} {u tu k k' : Int} (h : TnR R l u tu o k) (h' : TnR R l u tu o' k') : o = o' ∧ k = k' := by
  obtain ⟨h1, h2, h3⟩ := h
  obtain ⟨g1, g2, g3⟩ := h'
  by_cases hu : (1 ≤ u ∧ u ≤ 3) ∧ (1 ≤ tu ∧ tu ≤ 3)
  · by_cases hc : chk l ((cnt R).of u) = 0
    · obtain ⟨e1, e2⟩ := h3 hu hc
      obtain ⟨f1, f2⟩ := g3 hu hc
      have e : k = k' := e1.trans f1.symm
      subst e
      exact ⟨e2.trans f2.symm, rfl⟩
    · exact ⟨(h2 hu hc).1.trans (g2 hu hc).1.symm, (h2 hu hc).2.trans (g2 hu hc).2.symm⟩
  · exact ⟨(h1 hu).1.trans (g1 hu).1.symm, (h1 hu).2.trans (g1 hu).2.symm⟩
end Go.Proofs.YtgokmldngnmmhaaDoor
/- An operation in a unit, turned into bytes, is one over runes. Plain. -/
namespace Go.Proofs.YtgokmldngnmmhaaDoor
theorem Pl.ahead {u at_ : Int} {R : List Int} {c : Cn} (hu : 1 ≤ u ∧ u ≤ 3) (h : Pl u at_ R c) : AheadR u at_ R c (erV 0) :=
  ⟨fun e => by omega, fun _ e => by have := h.range; omega, fun _ _ => .inl ⟨rfl, h⟩⟩
theorem ahead_ex (u at_ : Int) (R : List Int) : ∃ c k, AheadR u at_ R c (erV k) := by
  by_cases hu : u < 1 ∨ 3 < u
  · exact ⟨Cn.zero, 1, fun _ => ⟨rfl, rfl⟩, fun e => absurd hu e, fun e => absurd hu e⟩
  · by_cases ha : at_ < 0 ∨ (cnt R).of u < at_
    · exact ⟨Cn.zero, 2, fun e => absurd e hu, fun _ _ => ⟨rfl, rfl⟩, fun _ e => absurd ha e⟩
    · by_cases hp : ∃ c, Pl u at_ R c
      · obtain ⟨c, hp⟩ := hp
        exact ⟨c, 0, fun e => absurd e hu, fun _ e => absurd e ha, fun _ _ => .inl ⟨rfl, hp⟩⟩
      · exact ⟨Cn.zero, 10, fun e => absurd e hu, fun _ e => absurd e ha, fun _ _ => .inr ⟨rfl, rfl, fun c' h => hp ⟨c', h⟩⟩⟩
theorem of_one_bl (rs : List Int) : (cnt rs).of 1 = bl rs := by
  have := cnt_b rs
  exact this
theorem of_three (rs : List Int) : (cnt rs).of 3 = rs.length := (cnt_in rs).2.2
/-- A place behind another one. -/
theorem pl_behind {u a n : Int} {P Q : List Int} {c : Cn} (ha : (cnt P).of u = a) (hn : 0 ≤ n) (hu : 1 ≤ u ∧ u ≤ 3) (h : Pl u (a + n) (P ++ Q) c) : ∃ d q, Q = d ++ q ∧ c = cnt (P ++ d) ∧ (cnt d).of u = n := by
  obtain ⟨p', q', e1, e2, rfl⟩ := h
  rcases pre_le e1 with ⟨d, h1, h2⟩ | ⟨d, h1, h2⟩
  · subst h1 h2
    rw [cnt_app_of] at e2
    exact ⟨d, q', rfl, rfl, by omega⟩
  · subst h1 h2
    rw [cnt_app_of] at ha
    have := of_nn d u
    have h0 : (cnt d).of u = 0 := by omega
    have h3 : d = [] := by
      have := of_len d hu
      exact List.length_eq_zero_iff.1 (by omega)
    subst h3
    exact ⟨[], Q, rfl, by rw [List.append_nil, List.append_nil], by rw [cnt_nil, of_zero]; omega⟩
theorem opR_put {b : U.Bs} (h : (⟨0, 0, b⟩ : PT).Good) : ∃ rs, rs ≠ [] ∧ U.AllR rs ∧ b = U.encs rs := by
  obtain ⟨h1, rs, hs⟩ := h
  have e := hs.eq
  rw [List.append_nil] at e
  refine ⟨rs, ?_, hs.all, e⟩
  rintro rfl
  have : b = [] := e
  subst this
  exact absurd h1.1 (by decide)
/-- What comes of a turn into bytes, if nothing is wrong. -/
theorem tnF_opr {R P Q : List Int} {u : Int} {l : List PT} (hu : 1 ≤ u ∧ u ≤ 3) (hR : R = P ++ Q) (hg : ∀ p ∈ l, p.Good) (hw : was l = (cnt Q).of u) (hk : (tnF R u 1 (cnt P) ((cnt P).of u) l).2 = 0) :
    (∃ X, OpR (tnF R u 1 (cnt P) ((cnt P).of u) l).1 X Q) ∧ plen (tnF R u 1 (cnt P) ((cnt P).of u) l).1 = plen l ∧ (tnF R u 1 (cnt P) ((cnt P).of u) l).1.length = l.length := by
  induction l generalizing P Q with
  | nil =>
    have : Q = [] := by
      have := of_len Q hu
      rw [was] at hw
      exact List.length_eq_zero_iff.1 (by omega)
    subst this
    rw [tnF]
    exact ⟨⟨_, .nil⟩, rfl, rfl⟩
  | cons p l ih =>
    obtain ⟨c, k, hA⟩ := ahead_ex u ((cnt P).of u + (p.keep + p.drop)) R
    have hgp := hg p (by simp)
    have hgl : ∀ q ∈ l, q.Good := fun q hq => hg q (by simp [hq])
    by_cases h0 : k = 0
    · subst h0
      rw [tnF_step hA] at hk ⊢
      have hpl := hA.nil
      rw [hR] at hpl
      have hnn := hgp.1.2
      obtain ⟨d, q, rfl, rfl, hd⟩ := pl_behind rfl (by omega) hu hpl
      have e1 : (cnt P).of u + (p.keep + p.drop) = (cnt (P ++ d)).of u := by rw [cnt_app_of, hd]
      rw [was, cnt_app_of, hd] at hw
      rw [e1] at hk ⊢
      dsimp only at hk ⊢
      obtain ⟨⟨X, i1⟩, i2, i3⟩ := ih (P := P ++ d) (Q := q) (by rw [hR, List.append_assoc]) hgl (by omega) hk
      have e2 : (cnt (P ++ d)).of 1 - (cnt P).of 1 = bl d := by rw [cnt_app_of, of_one_bl d]; omega
      rw [e2]
      rcases hgp.1.cases with ⟨b, hb, rfl⟩ | ⟨n, hn, rfl⟩ | ⟨n, hn, rfl⟩
      · obtain ⟨rs, hr, hall, rfl⟩ := opR_put hgp
        have hd0 : d = [] := by
          have := of_len d hu
          dsimp only at hd
          exact List.length_eq_zero_iff.1 (by omega)
        subst hd0
        rw [tnP_put, plen, plen, List.length_cons, List.length_cons, i2, i3]
        exact ⟨⟨_, .put hr hall i1⟩, rfl, rfl⟩
      · have hd0 : d ≠ [] := by
          rintro rfl
          rw [cnt_nil, of_zero] at hd
          dsimp only at hd
          omega
        rw [tnP_drop hn, plen, plen, List.length_cons, List.length_cons, i2, i3]
        exact ⟨⟨_, .drop hd0 i1⟩, rfl, rfl⟩
      · have hd0 : d ≠ [] := by
          rintro rfl
          rw [cnt_nil, of_zero] at hd
          dsimp only at hd
          omega
        rw [tnP_keep hn, plen, plen, List.length_cons, List.length_cons, i2, i3]
        exact ⟨⟨_, .keep hd0 i1⟩, rfl, rfl⟩
    · rw [tnF_stop hA h0] at hk
      exact absurd hk h0
/-- By runes nothing is ever wrong. -/
theorem tnF_runes {R P Q : List Int} {l : List PT} (hR : R = P ++ Q) (hg : ∀ p ∈ l, p.Good) (hw : was l = Q.length) : (tnF R 3 1 (cnt P) ((cnt P).of 3) l).2 = 0 := by
  induction l generalizing P Q with
  | nil => rfl
  | cons p l ih =>
    have hn := (hg p (by simp)).1.2
    have hwl : 0 ≤ was l := was_nn fun q hq => (hg q (List.mem_cons_of_mem _ hq)).1
    rw [was] at hw
    have h1 : (Q.take (p.keep + p.drop).toNat).length = (p.keep + p.drop).toNat := by rw [List.length_take]; omega
    have e1 : (cnt P).of 3 + (p.keep + p.drop) = (cnt (P ++ Q.take (p.keep + p.drop).toNat)).of 3 := by rw [cnt_app_of, of_three, of_three, h1]; omega
    have hA : AheadR 3 ((cnt P).of 3 + (p.keep + p.drop)) R (cnt (P ++ Q.take (p.keep + p.drop).toNat)) (erV 0) :=
      Pl.ahead (by decide) ⟨P ++ Q.take (p.keep + p.drop).toNat, Q.drop (p.keep + p.drop).toNat, by rw [hR, List.append_assoc, List.take_append_drop], e1.symm, rfl⟩
    rw [tnF_step hA, e1]
    dsimp only
    refine ih (Q := Q.drop (p.keep + p.drop).toNat) (by rw [hR, List.append_assoc, List.take_append_drop]) (fun q hq => hg q (List.mem_cons_of_mem _ hq)) ?_
    rw [List.length_drop]; omega
theorem chk_of {l : List PT} {n : Int} (hg : ∀ p ∈ l, p.Good) (hw : was l = n) : chk l n = 0 := by
  unfold chk
  rw [e1_good hg, if_pos rfl]
  exact e2_ok (fun p hp => (hg p hp).1) hw
/-- An operation by runes, in bytes. -/
theorem tnR_runes {R : List Int} {l o : List PT} {k : Int} (h : TnR R l 3 1 o k) (hg : ∀ p ∈ l, p.Good) (hw : was l = R.length) : k = 0 ∧ (∃ X, OpR o X R) ∧ plen o = plen l ∧ o.length = l.length := by
  have hw3 : was l = (cnt R).of 3 := by rw [of_three]; exact hw
  obtain ⟨e1, e2⟩ := h.2.2 ⟨by decide, by decide⟩ (chk_of hg hw3)
  have h0 := tnF_runes (R := R) (P := []) (Q := R) rfl hg hw
  have z : ((cnt ([] : List Int)).of 3) = 0 := by rw [cnt_nil, of_zero]
  obtain ⟨a, b, c⟩ := tnF_opr (R := R) (P := []) (Q := R) (u := 3) (by decide) rfl hg hw3 h0
  rw [z, cnt_nil] at h0 a b c
  rw [h0] at e1
  subst e1
  rw [if_pos rfl] at e2
  subst e2
  exact ⟨rfl, a, b, c⟩
/-- An operation in any unit, in bytes. -/
theorem tnR_opr {R : List Int} {l o : List PT} {u : Int} (hu : 1 ≤ u ∧ u ≤ 3) (h : TnR R l u 1 o 0) : (∃ X, OpR o X R) ∧ plen o = plen l ∧ o.length = l.length ∧ (∀ p ∈ l, p.Good) ∧ was l = (cnt R).of u := by
  have hc : chk l ((cnt R).of u) = 0 := by
    by_cases hc : chk l ((cnt R).of u) = 0
    · exact hc
    · exact absurd (h.2.1 ⟨hu, by decide⟩ hc).2.symm hc
  obtain ⟨hg, hw⟩ := chk_zero hc
  obtain ⟨e1, e2⟩ := h.2.2 ⟨hu, by decide⟩ hc
  have z : ((cnt ([] : List Int)).of u) = 0 := by rw [cnt_nil, of_zero]
  obtain ⟨a, b, c⟩ := tnF_opr (R := R) (P := []) (Q := R) hu rfl hg hw (by rw [z, cnt_nil]; exact e1.symm)
  rw [z, cnt_nil] at a b c
  rw [if_pos rfl] at e2
  subst e2
  exact ⟨a, b, c, hg, hw⟩
end Go.Proofs.YtgokmldngnmmhaaDoor
/- Splice, whatever comes of it. -/
namespace Go.Proofs.YtgokmldngnmmhaaDoor
open Go.RowKit
set_option maxRecDepth 100000
/-- What a Splice leaves: the rope of the runes R', in its own blocks and new ones. -/
structure SplW (w w' : World) (p : Nat) (t t' : RT) (R' : List Int) : Prop where
  runes : t'.runes = R'
  good : Good t'
  at_ : AtR w' p t'
  sub : ∀ i ∈ t'.blocks, i ∈ t.blocks ∨ w.heap.size ≤ i
  only : Only (fun i => i = p ∨ i ∈ t.blocks) w w'
theorem SplW.of_below {w w' : World} {p : Nat} {t : RT} (h : AtR w p t) (hg : Good t) (hb : Below w.heap.size w w') : SplW w w' p t t t.runes :=
  ⟨rfl, hg, h.below hb, fun _ h => .inl h, Only.of_below hb⟩
theorem splice_all {p : Nat} {t : RT} {w : World} {R' prs : List Int} {rest put : U.Bs} {x d k pl : Int} (h : AtR w p t) (hg : Good t) (hS : SplR t.runes x d prs rest R' k pl) (hs : U.Sp put prs rest) (hl : put.length ≤ 1000000) :
    Calls Tryd.prog 42 #[.pointer (some ⟨p, 0, none⟩), .int .i64 x, .int .i64 d, .string ⟨put.toArray⟩] w fun e w' => ∃ v t', e = .returned v ∧ ErrV w' v k pl ∧ SplW w w' p t t' R' := by
  have hlp : rest = [] → put = U.encs prs := fun e => by have := hs.eq; rwa [e, List.append_nil] at this
  have hbl : rest = [] → bl prs ≤ 1000000 := fun e => by have := hlp e; unfold bl; rw [← this]; exact hl
  rcases hS with ⟨hne, rfl, rfl, rfl⟩ | ⟨he, rfl, rfl, rfl, hc⟩ | ⟨he, rfl, rfl, rfl, a, b, rfl, rfl, hab, hE⟩ | ⟨he, rfl, rfl, rfl, a, b, rfl, rfl, hab, hE, hf⟩ | ⟨he, rfl, rfl, P, D, Q, hPQ, rfl, rfl, hs2, rfl⟩
  · refine (splice_form h hs hne hl).mono ?_
    rintro e w' ⟨hb, g, rfl, hat⟩
    exact ⟨_, t, rfl, .at_ g _ _ hat, .of_below h hg hb⟩
  · rw [hlp he]
    refine (splice_refuse h hg hs.all (hbl he) (.inl ⟨hc, rfl⟩)).mono ?_
    rintro e w' ⟨rfl, hb⟩
    exact ⟨_, t, rfl, .no _, .of_below h hg hb⟩
  · rw [hlp he]
    refine (splice_refuse h hg hs.all (hbl he) (.inr (.inl ⟨a, b, rfl, rfl, hab, hE, rfl⟩))).mono ?_
    rintro e w' ⟨rfl, hb⟩
    exact ⟨_, t, rfl, .no _, .of_below h hg hb⟩
  · rw [hlp he]
    refine (splice_refuse h hg hs.all (hbl he) (.inr (.inr ⟨a, b, rfl, rfl, hab, hE, hf, rfl⟩))).mono ?_
    rintro e w' ⟨rfl, hb⟩
    exact ⟨_, t, rfl, .no _, .of_below h hg hb⟩
  · rw [hlp he]
    refine (splice_ok h hg hPQ hs.all hs2).mono ?_
    rintro e w' ⟨rfl, t', hr, hg', hL⟩
    exact ⟨_, t', rfl, .nil, ⟨hr, hg', hL.at_, hL.sub, hL.only⟩⟩
end Go.Proofs.YtgokmldngnmmhaaDoor
