/- (*tape).take; the two tapes at a round's head. -/
import Derived.Test.YthbhhnfhjppbdaaDoorOpT
import Derived.Test.YthbhhnfhjppbdaaDoorOpK
namespace Go.Proofs.YthbhhnfhjppbdaaDoor
open Go.RowKit
set_option maxRecDepth 100000
set_option maxHeartbeats 1000000 in
theorem ttake_calls {g a m : Nat} {v : Value} {k : Int} {w : World} (hb : Blk w g 97 #[v, .int .i64 a]) (hk : k = m) (ha : a ≤ 4611686018427387903) (hm : m ≤ 4611686018427387903) :
    Calls Tryd.prog 48 #[.pointer (some ⟨g, 0, none⟩), .int .i64 k] w fun e w' => e = .returned (.tuple #[]) ∧ w' = w.setCell ⟨g, 1, none⟩ (.int .i64 ((a + m : Nat) : Int)) := by
  subst hk
  have c0 := hb.cell 0
  have c1 := hb.cell 1
  have cf := hb.frozen
  simp only [List.getElem?_toArray, List.getElem?_cons_zero, List.getElem?_cons_succ] at c0 c1
  clear hb
  go_enter Tryd.func48, Tryd.ntmps48
  go_wp2_with fail
  go_end0
  exact ⟨rfl, by go_num⟩
/-- What bytes come to, in least form. -/
def urun (u : List PT) : List PT := (nrun .zero u).all
theorem norm_urun {l : List PT} (h : ∀ p ∈ l, p.arg) : norm l = urun (expand l) := by unfold norm urun; rw [nrun_expand _ h]
theorem exp_meas {p : PT} (h : p.arg) : (uwas p.exp : Int) = p.keep + p.drop ∧ (ucomes p.exp : Int) = p.keep + p.put.length ∧ (p.exp.length : Int) = p.keep + p.drop + p.put.length := by
  rcases h.cases with ⟨b, hb, rfl⟩ | ⟨n, hn, rfl⟩ | ⟨n, hn, rfl⟩
  · rw [exp_put, uwas_b, ucomes_b]; simp
  · rw [exp_drop, ucomes_d]
    have := uwas_unit n true
    simp only [unit, if_true] at this
    rw [this]; simp
  · rw [exp_keep, ucomes_k]
    have := uwas_unit n false
    simp only [unit, if_false, Bool.false_eq_true] at this
    rw [this]; simp
theorem expand_meas {l : List PT} (h : ∀ p ∈ l, p.arg) : (uwas (expand l) : Int) = was l ∧ (ucomes (expand l) : Int) = comes l ∧ ((expand l).length : Int) = was l + plen l := by
  induction l with
  | nil => simp [expand, uwas, ucomes, was, comes, plen]
  | cons p l ih =>
    obtain ⟨a, b, c⟩ := ih (fun q hq => h q (by simp [hq]))
    obtain ⟨d, e, f⟩ := exp_meas (h p (by simp))
    rw [expand_cons, uwas_append, ucomes_append, List.length_append, was, comes, plen]
    exact ⟨by omega, by omega, by omega⟩
theorem tr_len (first : Bool) (x y : List PT) : (tr first x y).length ≤ x.length + y.length := by
  induction x, y using tr.induct (first := first) with
  | case1 p x q y h ih => rw [tr, if_pos h]; simp at ih ⊢; omega
  | case2 p x q y h h2 ih => rw [tr, if_neg h, if_pos h2]; simp at ih ⊢; omega
  | case3 p x q y h h2 h3 ih => rw [tr, if_neg h, if_neg h2, if_pos h3]; simp at ih ⊢; omega
  | case4 p x q y h h2 h3 ih => rw [tr, if_neg h, if_neg h2, if_neg h3]; simp at ih ⊢; omega
  | case5 p x h ih => rw [tr, if_pos h]; simp at ih ⊢; omega
  | case6 p x h => rw [tr, if_neg h]; simp
  | case7 q y h ih => rw [tr, if_pos h]; simp at ih ⊢; omega
  | case8 q y h => rw [tr, if_neg h]; simp
  | case9 => rw [tr]; simp
theorem cm_len (x y : List PT) : (cm x y).length ≤ x.length + y.length := by
  induction x, y using cm.induct with
  | case1 p x q y h ih => rw [cm, if_pos h]; simp at ih ⊢; omega
  | case2 p x q y h h2 ih => rw [cm, if_neg h, if_pos h2]; simp at ih ⊢; omega
  | case3 p x q y h h2 h3 ih => rw [cm, if_neg h, if_neg h2, if_pos h3]; split <;> simp at ih ⊢ <;> omega
  | case4 p x q y h h2 h3 ih => rw [cm, if_neg h, if_neg h2, if_neg h3]; split <;> simp at ih ⊢ <;> omega
  | case5 p x h ih => rw [cm, if_pos h]; simp at ih ⊢; omega
  | case6 p x h => rw [cm, if_neg h]; simp
  | case7 q y h ih => rw [cm, if_pos h]; simp at ih ⊢; omega
  | case8 q y h => rw [cm, if_neg h]; simp
  | case9 => rw [cm]; simp
theorem tbd_of {l : List PT} (h : ∀ p ∈ l, p.arg) (hw : was l ≤ 1000000) (hp : plen l ≤ 1000000) : Tbd l := by
  intro p hp'
  obtain ⟨_, h2, h3⟩ := h p hp'
  suffices hs : p.keep + p.drop ≤ was l ∧ p.put.length ≤ plen l by omega
  clear hw hp
  induction l with
  | nil => simp at hp'
  | cons q l ih =>
    have hn := was_nn (l := l) (fun r hr => h r (by simp [hr]))
    obtain ⟨_, h4, h5⟩ := h q (by simp)
    rw [was, plen]
    rcases List.mem_cons.1 hp' with e | e
    · subst e; omega
    · obtain ⟨a, b⟩ := ih (fun r hr => h r (by simp [hr])) e
      omega
/-- The two tapes, and what comes, at a round's head. W0: the world ahead of the loop. -/
structure TI (W0 wr : World) (gx gy : Nat) (vx : Value) (nx : Nat) (lx : List PT) (ax : Nat) (vy : Value) (ny : Nat) (ly : List PT) (ay : Nat) (vo : Value) (out : List PT) : Prop where
  bx : Blk wr gx 97 #[vx, .int .i64 ax]
  by_ : Blk wr gy 97 #[vy, .int .i64 ay]
  sx : Sl W0 3 vx nx (opv lx)
  sy : Sl W0 3 vy ny (opv ly)
  ox : Tok lx ax
  oy : Tok ly ay
  own : wr.ownsRow W0.heap.size 81 3 vo out.length (opv out)
  only : Only (fun k => k = gx ∨ k = gy) W0 wr
/-- What holds all along: the tapes' own places. -/
structure TG (W0 : World) (gx gy : Nat) : Prop where
  tx : ∃ a b, Blk W0 gx 97 #[a, b]
  ty : ∃ a b, Blk W0 gy 97 #[a, b]
  ne : gx ≠ gy
theorem tape_sl2 {W0 w' : World} {gx gy n : Nat} {l : List PT} {v : Value} (hg : TG W0 gx gy) (hs : Sl W0 3 v n (opv l)) (ho : Only (fun k => k = gx ∨ k = gy) W0 w') : Sl w' 3 v n (opv l) := by
  obtain ⟨a, b, hx⟩ := hg.tx
  obtain ⟨c, d, hy⟩ := hg.ty
  refine hs.only ho ?_
  rintro ⟨b, o, p⟩ c rfl hn h
  cases l with
  | nil => have := hs.len; simp [opv] at this; omega
  | cons q l =>
    obtain ⟨b', o', m, c', rfl, hv, _⟩ := hs.head
    cases hv
    rcases h with h | h
    · exact tape_ne hs (by omega) hx h
    · exact tape_ne hs (by omega) hy h
section
variable {W0 wr w1 : World} {gx gy : Nat} {vx vy vo : Value} {nx ny ax ay : Nat} {lx ly out : List PT}
theorem TI.px (h : TI W0 wr gx gy vx nx lx ax vy ny ly ay vo out) (hg : TG W0 gx gy) : Tp_ wr gx vx nx lx ax := ⟨h.bx, tape_sl2 hg h.sx h.only, h.ox⟩
theorem TI.py (h : TI W0 wr gx gy vx nx lx ax vy ny ly ay vo out) (hg : TG W0 gx gy) : Tp_ wr gy vy ny ly ay := ⟨h.by_, tape_sl2 hg h.sy h.only, h.oy⟩
theorem TG.ltx (hg : TG W0 gx gy) : gx < W0.heap.size := by obtain ⟨a, b, h⟩ := hg.tx; exact h.lt
theorem TG.lty (hg : TG W0 gx gy) : gy < W0.heap.size := by obtain ⟨a, b, h⟩ := hg.ty; exact h.lt
theorem TI.nx_ {vx2 : Value} {nx2 ax2 : Nat} {lx2 : List PT} (h : TI W0 wr gx gy vx nx lx ax vy ny ly ay vo out) (hg : TG W0 gx gy) (ht : Tp_ w1 gx vx2 nx2 lx2 ax2)
    (htr : ∀ W, Sl W 3 vx nx (opv lx) → Sl W 3 vx2 nx2 (opv lx2)) (ho : Only (fun k => k = gx) wr w1) : TI W0 w1 gx gy vx2 nx2 lx2 ax2 vy ny ly ay vo out :=
  ⟨ht.blk, h.by_.only ho (fun e => hg.ne e.symm), htr _ h.sx, h.sy, ht.ok, h.oy, own_only h.own ho (fun k hk e => by have := (h.own.lt k hk).1; have := hg.ltx; omega), h.only.step ho (fun _ _ e => .inl e)⟩
theorem TI.ny_ {vy2 : Value} {ny2 ay2 : Nat} {ly2 : List PT} (h : TI W0 wr gx gy vx nx lx ax vy ny ly ay vo out) (hg : TG W0 gx gy) (ht : Tp_ w1 gy vy2 ny2 ly2 ay2)
    (htr : ∀ W, Sl W 3 vy ny (opv ly) → Sl W 3 vy2 ny2 (opv ly2)) (ho : Only (fun k => k = gy) wr w1) : TI W0 w1 gx gy vx nx lx ax vy2 ny2 ly2 ay2 vo out :=
  ⟨h.bx.only ho (fun e => hg.ne e), ht.blk, h.sx, htr _ h.sy, h.ox, ht.ok, own_only h.own ho (fun k hk e => by have := (h.own.lt k hk).1; have := hg.lty; omega), h.only.step ho (fun _ _ e => .inr e)⟩
theorem TI.alloc (h : TI W0 wr gx gy vx nx lx ax vy ny ly ay vo out) (o : Obj) : TI W0 (wr.alloc o) gx gy vx nx lx ax vy ny ly ay vo out :=
  ⟨h.bx.alloc o, h.by_.alloc o, h.sx, h.sy, h.ox, h.oy, h.own.alloc o, h.only.alloc o⟩
theorem TI.drew (h : TI W0 wr gx gy vx nx lx ax vy ny ly ay vo out) : TI W0 wr.drew gx gy vx nx lx ax vy ny ly ay vo out :=
  ⟨h.bx, h.by_, h.sx, h.sy, h.ox, h.oy, h.own, h.only.drew⟩
theorem TI.add {p : PT} {v2 : Value} {N : Nat} (h : TI W0 wr gx gy vx nx lx ax vy ny ly ay vo out) (hg : TG W0 gx gy) (hN : out.length = N) (ho : w1.ownsRow W0.heap.size 81 3 v2 (N + 1) (opv out ++ p.cells))
    (hb : Below W0.heap.size wr w1) (hgr : wr.grownBy w1 vo.ownBlock) : TI W0 w1 gx gy vx nx lx ax vy ny ly ay v2 (out ++ [p]) := by
  refine ⟨h.bx.below hb hg.ltx, h.by_.below hb hg.lty, h.sx, h.sy, h.ox, h.oy, ?_, h.only.step (Only.of_grown hgr) (fun i hi e => ?_)⟩
  · rw [opv_append, opv_one, List.length_append, hN]; exact ho
  · have := (h.own.lt i e.symm).1
    omega
theorem TI.tkx {m : Nat} (h : TI W0 wr gx gy vx nx lx ax vy ny ly ay vo out) (hg : TG W0 gx gy) (hok : Tok lx (ax + m)) : TI W0 (wr.setCell ⟨gx, 1, none⟩ (.int .i64 ((ax + m : Nat) : Int))) gx gy vx nx lx (ax + m) vy ny ly ay vo out :=
  ⟨h.bx.set_ 1 _, h.by_.far (p := ⟨gx, 1, none⟩) (Ne.symm hg.ne) _, h.sx, h.sy, hok, h.oy, ownsRow_setCell_other h.own (fun e => Nat.lt_irrefl _ (Nat.lt_of_lt_of_le hg.ltx (h.own.lt _ e).1)) _, h.only.setCell (p := ⟨gx, 1, none⟩) (.inl (.inl rfl)) _⟩
theorem TI.tky {m : Nat} (h : TI W0 wr gx gy vx nx lx ax vy ny ly ay vo out) (hg : TG W0 gx gy) (hok : Tok ly (ay + m)) : TI W0 (wr.setCell ⟨gy, 1, none⟩ (.int .i64 ((ay + m : Nat) : Int))) gx gy vx nx lx ax vy ny ly (ay + m) vo out :=
  ⟨h.bx.far (p := ⟨gy, 1, none⟩) hg.ne _, h.by_.set_ 1 _, h.sx, h.sy, h.ox, hok, ownsRow_setCell_other h.own (fun e => Nat.lt_irrefl _ (Nat.lt_of_lt_of_le hg.lty (h.own.lt _ e).1)) _, h.only.setCell (p := ⟨gy, 1, none⟩) (.inl (.inr rfl)) _⟩
end
end Go.Proofs.YthbhhnfhjppbdaaDoor
