/- Two servers side by side: the program's and the reference's. -/
import Derived.Test.YtdgdajnbkfmijaaGreatDoorMServerPlays43
import Derived.Test.YtdgdajnbkfmijaaGreatDoorMServerPlays44
namespace Go.Proofs.YtdgdajnbkfmijaaGreatDoor
open Go.RowKit Go.Sort
set_option maxRecDepth 100000
structure SPr (w0 wr : World) (a0 a1 k : Nat) (S : SV) (s : SP) (r : RSP) (F : Nat → Prop) : Prop where
  sr : SrvR wr F s S
  rr : RSrvR wr F r S
  ha : s.a = a0
  hb : r.a = a1
  hm : s.m ≠ r.m
  hd : HdlO F wr
  new : ∀ j, F j → w0.heap.size ≤ j
  bel : Below w0.heap.size w0 wr
  tk : S.tk ≤ k ∧ S.log.length ≤ k
section
variable {w0 wr w' w8 w9 : World} {a0 a1 k : Nat} {S S' : SV} {s s' : SP} {r r' : RSP} {F : Nat → Prop}
theorem SPr.below (h : SPr w0 wr a0 a1 k S s r F) (hb : Below wr.heap.size wr w') : SPr w0 w' a0 a1 k S s r F :=
  ⟨h.sr.below hb, h.rr.below hb, h.ha, h.hb, h.hm, h.hd.below hb (Grow.refl _ _), h.new, bstep h.bel hb, h.tk⟩
theorem SPr.apart (h : SPr w0 wr a0 a1 k S s r F) : ∀ j, s.F j → ¬ r.F j := by
  obtain ⟨es, clock, hm⟩ := h.sr.map.cap
  obtain ⟨es', clock', hm'⟩ := h.rr.map.cap
  have b1 := h.sr.blk
  have b2 := h.rr.blk
  rintro j (e | e | e) (e' | e' | e' | e')
  · subst e
    rw [e'] at b1
    unfold Blk at b1 b2
    rw [b1] at b2
    simp at b2
  · obtain ⟨cur, hc⟩ := own_type h.rr.docs e'
    exact blk_ne b1 hc (by decide) e
  · obtain ⟨cur, hc⟩ := own_type h.rr.own e'
    exact blk_ne b1 hc (by decide) e
  · exact map_ne hm' b1 (e.symm.trans e')
  · obtain ⟨cur, hc⟩ := own_type h.sr.own e
    exact blk_ne b2 hc (by decide) e'
  · obtain ⟨cur, hc⟩ := own_type h.sr.own e
    obtain ⟨cur', hc'⟩ := own_type h.rr.docs e'
    rw [hc] at hc'
    simp at hc'
  · obtain ⟨cur, hc⟩ := own_type h.sr.own e
    obtain ⟨cur', hc'⟩ := own_type h.rr.own e'
    rw [hc] at hc'
    simp at hc'
  · obtain ⟨cur, hc⟩ := own_type h.sr.own e
    exact map_ne hm' hc e'
  · exact map_ne hm b2 (e'.symm.trans e)
  · obtain ⟨cur, hc⟩ := own_type h.rr.docs e'
    exact map_ne hm hc e
  · obtain ⟨cur, hc⟩ := own_type h.rr.own e'
    exact map_ne hm hc e
  · exact h.hm (e.symm.trans e')
/-- Behind the program's Take. -/
theorem SPr.first (h : SPr w0 wr a0 a1 k S s r F) (ho : Only s.F wr w8) (hg : Grow s.F s'.F wr.heap.size) (hS : ∀ F', (∀ j, F' j → F j ∨ s'.F j) → (∀ j, s'.F j → F' j) → SrvR w8 F' s' S') :
    SrvR w8 (fun j => F j ∨ s'.F j) s' S' ∧ RSrvR w8 (fun j => F j ∨ s'.F j) r S ∧ HdlO (fun j => F j ∨ s'.F j) w8 ∧ Grow F (fun j => F j ∨ s'.F j) wr.heap.size ∧ Only F wr w8 := by
  have h1 := hS (fun j => F j ∨ s'.F j) (fun _ e => e) (fun _ e => .inr e)
  have hgr : Grow F (fun j => F j ∨ s'.F j) wr.heap.size := fun j hj => hj.elim .inl (fun e => (hg j e).imp_left (h.sr.sub j))
  have ho' : Only F wr w8 := ho.mono (fun j _ => h.sr.sub j)
  exact ⟨h1, h.rr.only ho h.sr.sub (fun j e e' => h.apart j e' e) hgr (fun j e => .inl (h.rr.sub j e)) h1.flt, h.hd.only ho' hgr, hgr, ho'⟩
/-- Behind both. -/
theorem SPr.second (h : SPr w0 wr a0 a1 k S s r F) (ho : Only s.F wr w8) (hg : Grow s.F s'.F wr.heap.size) (hS : ∀ F', (∀ j, F' j → F j ∨ s'.F j) → (∀ j, s'.F j → F' j) → SrvR w8 F' s' S')
    (ha : s'.a = s.a) (hm : s'.m = s.m) (ho2 : Only r.F w8 w9) (hg2 : Grow r.F r'.F w8.heap.size) (hS2 : ∀ F', (∀ j, F' j → (F j ∨ s'.F j) ∨ r'.F j) → (∀ j, r'.F j → F' j) → RSrvR w9 F' r' S')
    (hb : r'.a = r.a) (hm2 : r'.m = r.m) (htk : S'.tk ≤ k + 1 ∧ S'.log.length ≤ k + 1) : SPr w0 w9 a0 a1 (k + 1) S' s' r' (fun j => s'.F j ∨ r'.F j) := by
  obtain ⟨h1, h2, h3, h4, h5⟩ := h.first ho hg hS
  have r1 := hS2 (fun j => s'.F j ∨ r'.F j) (fun j hj => hj.elim (fun e => .inl (.inr e)) .inr) (fun _ e => .inr e)
  have hgr2 : Grow (fun j => F j ∨ s'.F j) (fun j => s'.F j ∨ r'.F j) w8.heap.size := fun j hj => hj.elim (fun e => .inl (.inr e)) (fun e => (hg2 j e).imp_left (fun e => .inl (h.rr.sub j e)))
  have hsub : ∀ j, r.F j → F j ∨ s'.F j := fun j e => .inl (h.rr.sub j e)
  have hdis : ∀ j, s'.F j → ¬ r.F j := fun j e e' => by
    rcases hg j e with e2 | e2
    · exact h.apart j e2 e'
    · have := h.rr.lt j e'; omega
  have s1 := h1.only ho2 hsub hdis hgr2 (fun _ e => .inl e) r1.flt
  have hnew : ∀ j, s'.F j ∨ r'.F j → w0.heap.size ≤ j := fun j hj => by
    have z := h.bel.size
    have z8 := ho.size
    rcases hj with e | e
    · rcases hg j e with e | e
      · exact h.new j (h.sr.sub j e)
      · omega
    · rcases hg2 j e with e | e
      · exact h.new j (h.rr.sub j e)
      · omega
  refine ⟨s1, r1, by rw [ha, h.ha], by rw [hb, h.hb], by rw [hm, hm2]; exact h.hm, h3.only (ho2.mono (fun j _ => hsub j)) hgr2, hnew, ?_, htk⟩
  exact (h.bel.trans (h5.below h.bel.size (fun j hj e => by have := h.new j e; omega))).trans ((ho2.mono (S' := F) (fun j _ => h.rr.sub j)).below (Nat.le_trans h.bel.size ho.size) (fun j hj e => by have := h.new j e; omega))
end
/-- A server of each, new. -/
theorem SPr.start {w w1 w2 : World} {R : List Int} {s : SP} {r : RSP} (hg : Hdl w) (hb1 : Below w.heap.size w w1) (hs : SrvR w1 s.F s (SV.new (U.encs R))) (hF : ∀ j, s.F j → w.heap.size ≤ j) (hb2 : Below w1.heap.size w1 w2) (hr : RSrvR w2 r.F r (SV.new (U.encs R))) (hG : ∀ j, r.F j → w1.heap.size ≤ j)
    (hrp : w.heap.size ≤ s.p) : SPr w w2 s.a r.a 0 (SV.new (U.encs R)) s r (fun j => s.F j ∨ r.F j) := by
  have z1 := hb1.size
  have z2 := hb2.size
  have hs2 := hs.below hb2
  have hlt := hs.lt
  refine ⟨?_, hr.widen (fun _ e => .inr e) (fun j hj => hj.elim (fun e => by have := hlt j e; omega) (hr.flt j)) rfl, rfl, rfl, fun e => ?_, ⟨hg.below (hb1.trans (hb2.mono z1)), fun e => ?_⟩, fun j hj => hj.elim (hF j) (fun e => by have := hG j e; omega), hb1.trans (hb2.mono z1), ⟨Nat.le_refl _, Nat.le_refl _⟩⟩
  · have hL : s.L = [] := by have := hs.len; exact List.length_eq_zero_iff.1 this
    refine ⟨hs2.ok, hs2.blk, hs2.rope, hs2.good, hs2.doc, ⟨fun e => ?_, fun b hb e => ?_⟩, hs2.own, hs2.log, fun x hx => by rw [hL] at hx; simp at hx, hs2.map, hs2.tk, fun j e => .inl e, fun j hj => hj.elim (fun e => by have := hlt j e; omega) (hr.flt j)⟩
    · rcases e with e | e
      · exact hs.rp.1 e
      · have := hG _ e; have := hs.rope.blk.lt; omega
    · rcases e with e | e
      · exact hs.rp.2 b hb e
      · have := hG _ e; have := hs.rope.tree.lt b hb; omega
  · have h1 := hG _ (.inr (.inr (.inr rfl)) : r.F r.m)
    have h2 := hlt _ (.inr (.inr rfl) : s.F s.m)
    omega
  · have := hg.lt
    rcases e with e | e
    · have := hF _ e; omega
    · have := hG _ e; omega
end Go.Proofs.YtdgdajnbkfmijaaGreatDoor
