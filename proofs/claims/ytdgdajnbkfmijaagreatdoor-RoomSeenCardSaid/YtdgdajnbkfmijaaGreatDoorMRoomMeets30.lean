/- Several texts of the proof, one behind the other: OpX, OpXT, ApM, RuC, ApR, ShP. -/
import Derived.Test.YtdgdajnbkfmijaaGreatDoorMRoomMeets28
import Derived.Test.YtdgdajnbkfmijaaGreatDoorMRoomMeets29
import Derived.Test.YtdgdajnbkfmijaaGreatDoorMRoomMeets22
import Derived.Test.YtdgdajnbkfmijaaGreatDoorMRoomMeets15
import Derived.Test.YtdgdajnbkfmijaaGreatDoorMRoomMeets26
import Derived.Test.YtdgdajnbkfmijaaGreatDoorMRoomMeets2
import Derived.Test.YtdgdajnbkfmijaaGreatDoorMRoomMeets8
/- (*tape).take; the two tapes at a round's head. -/
namespace Go.Proofs.YtdgdajnbkfmijaaGreatDoor
open Go.RowKit
set_option maxRecDepth 100000
set_option maxHeartbeats 1000000 in
theorem ttake_calls {g a m : Nat} {v : Value} {k : Int} {w : World} (hb : Blk w g 221 #[v, .int .i64 a]) (hk : k = m) (ha : a ≤ 4611686018427387903) (hm : m ≤ 4611686018427387903) :
    Calls Tryz.prog 123 #[.pointer (some ⟨g, 0, none⟩), .int .i64 k] w fun e w' => e = .returned (.tuple #[]) ∧ w' = w.setCell ⟨g, 1, none⟩ (.int .i64 ((a + m : Nat) : Int)) := by
  subst hk
  have c0 := hb.cell 0
  have c1 := hb.cell 1
  have cf := hb.frozen
  simp only [List.getElem?_toArray, List.getElem?_cons_zero, List.getElem?_cons_succ] at c0 c1
  clear hb
  go_enter Tryz.func123, Tryz.ntmps123
  go_wp2_with fail
  go_end0
  exact ⟨rfl, by go_num⟩
/-- What bytes come to, in least form. -/
def urun (u : List PT) : List PT := (nrun .zero u).all
theorem norm_urun {l : List PT} (h : ∀ p ∈ l, p.arg) : norm l = urun (expand l) := by unfold norm urun; rw [nrun_expand _ h]
theorem exp_meas {p : PT} (h : p.arg) : (uwas p.exp : Int) = p.keep + p.drop ∧ (ucomes p.exp : Int) = p.keep + p.put.length ∧ (p.exp.length : Int) = p.keep + p.drop + p.put.length := by
  rcases h.cases with ⟨b, hb, rfl⟩ | ⟨n, hn, rfl⟩ | ⟨n, hn, rfl⟩
  · rw [exp_put, uwas_b, ucomes_b]; simp
  · rw [exp_drop, ucomes_d]
    have := uwas_unit n true
    simp only [unit, if_true] at this
    rw [this]; simp
  · rw [exp_keep, ucomes_k]
    have := uwas_unit n false
    simp only [unit, if_false, Bool.false_eq_true] at this
    rw [this]; simp
theorem expand_meas {l : List PT} (h : ∀ p ∈ l, p.arg) : (uwas (expand l) : Int) = was l ∧ (ucomes (expand l) : Int) = comes l ∧ ((expand l).length : Int) = was l + plen l := by
  induction l with
  | nil => simp [expand, uwas, ucomes, was, comes, plen]
  | cons p l ih =>
    obtain ⟨a, b, c⟩ := ih (fun q hq => h q (by simp [hq]))
    obtain ⟨d, e, f⟩ := exp_meas (h p (by simp))
    rw [expand_cons, uwas_append, ucomes_append, List.length_append, was, comes, plen]
    exact ⟨by omega, by omega, by omega⟩
theorem tr_len (first : Bool) (x y : List PT) : (tr first x y).length ≤ x.length + y.length := by
  induction x, y using tr.induct (first := first) with
  | case1 p x q y h ih => rw [tr, if_pos h]; simp at ih ⊢; omega
  | case2 p x q y h h2 ih => rw [tr, if_neg h, if_pos h2]; simp at ih ⊢; omega
  | case3 p x q y h h2 h3 ih => rw [tr, if_neg h, if_neg h2, if_pos h3]; simp at ih ⊢; omega
  | case4 p x q y h h2 h3 ih => rw [tr, if_neg h, if_neg h2, if_neg h3]; simp at ih ⊢; omega
  | case5 p x h ih => rw [tr, if_pos h]; simp at ih ⊢; omega
  | case6 p x h => rw [tr, if_neg h]; simp
  | case7 q y h ih => rw [tr, if_pos h]; simp at ih ⊢; omega
  | case8 q y h => rw [tr, if_neg h]; simp
  | case9 => rw [tr]; simp
theorem cm_len (x y : List PT) : (cm x y).length ≤ x.length + y.length := by
  induction x, y using cm.induct with
  | case1 p x q y h ih => rw [cm, if_pos h]; simp at ih ⊢; omega
  | case2 p x q y h h2 ih => rw [cm, if_neg h, if_pos h2]; simp at ih ⊢; omega
  | case3 p x q y h h2 h3 ih => rw [cm, if_neg h, if_neg h2, if_pos h3]; split <;> simp at ih ⊢ <;> omega
  | case4 p x q y h h2 h3 ih => rw [cm, if_neg h, if_neg h2, if_neg h3]; split <;> simp at ih ⊢ <;> omega
  | case5 p x h ih => rw [cm, if_pos h]; simp at ih ⊢; omega
  | case6 p x h => rw [cm, if_neg h]; simp
  | case7 q y h ih => rw [cm, if_pos h]; simp at ih ⊢; omega
  | case8 q y h => rw [cm, if_neg h]; simp
  | case9 => rw [cm]; simp
theorem tbd_of {l : List PT} (h : ∀ p ∈ l, p.arg) (hw : was l ≤ 1000000) (hp : plen l ≤ 1000000) : Tbd l := by
  intro p hp'
  obtain ⟨_, h2, h3⟩ := h p hp'
  suffices hs : p.keep + p.drop ≤ was l ∧ p.put.length ≤ plen l by omega
  clear hw hp
  induction l with
  | nil => simp at hp'
  | cons q l ih =>
    have hn := was_nn (l := l) (fun r hr => h r (by simp [hr]))
    obtain ⟨_, h4, h5⟩ := h q (by simp)
    rw [was, plen]
    rcases List.mem_cons.1 hp' with e | e
    · subst e; omega
    · obtain ⟨a, b⟩ := ih (fun r hr => h r (by simp [hr])) e
      omega
/-- The two tapes, and what comes, at a round's head. W0: the world ahead of the loop. -/
structure TI (W0 wr : World) (gx gy : Nat) (vx : Value) (nx : Nat) (lx : List PT) (ax : Nat) (vy : Value) (ny : Nat) (ly : List PT) (ay : Nat) (vo : Value) (out : List PT) : Prop where
  bx : Blk wr gx 221 #[vx, .int .i64 ax]
  by_ : Blk wr gy 221 #[vy, .int .i64 ay]
  sx : Sl W0 3 vx nx (opv lx)
  sy : Sl W0 3 vy ny (opv ly)
  ox : Tok lx ax
  oy : Tok ly ay
  own : wr.ownsRow W0.heap.size 113 3 vo out.length (opv out)
  only : Only (fun k => k = gx ∨ k = gy) W0 wr
/-- What holds all along: the tapes' own places. -/
structure TG (W0 : World) (gx gy : Nat) : Prop where
  tx : ∃ a b, Blk W0 gx 221 #[a, b]
  ty : ∃ a b, Blk W0 gy 221 #[a, b]
  ne : gx ≠ gy
theorem tape_sl2 {W0 w' : World} {gx gy n : Nat} {l : List PT} {v : Value} (hg : TG W0 gx gy) (hs : Sl W0 3 v n (opv l)) (ho : Only (fun k => k = gx ∨ k = gy) W0 w') : Sl w' 3 v n (opv l) := by
  obtain ⟨a, b, hx⟩ := hg.tx
  obtain ⟨c, d, hy⟩ := hg.ty
  refine hs.only ho ?_
  rintro ⟨b, o, p⟩ c rfl hn h
  cases l with
  | nil => have := hs.len; simp [opv] at this; omega
  | cons q l =>
    obtain ⟨b', o', m, c', rfl, hv, _⟩ := hs.head
    cases hv
    rcases h with h | h
    · exact tape_ne hs (by omega) hx h
    · exact tape_ne hs (by omega) hy h
section
variable {W0 wr w1 : World} {gx gy : Nat} {vx vy vo : Value} {nx ny ax ay : Nat} {lx ly out : List PT}
theorem TI.px (h : TI W0 wr gx gy vx nx lx ax vy ny ly ay vo out) (hg : TG W0 gx gy) : Tp_ wr gx vx nx lx ax := ⟨h.bx, tape_sl2 hg h.sx h.only, h.ox⟩
theorem TI.py (h : TI W0 wr gx gy vx nx lx ax vy ny ly ay vo out) (hg : TG W0 gx gy) : Tp_ wr gy vy ny ly ay := ⟨h.by_, tape_sl2 hg h.sy h.only, h.oy⟩
theorem TG.ltx (hg : TG W0 gx gy) : gx < W0.heap.size := by obtain ⟨a, b, h⟩ := hg.tx; exact h.lt
theorem TG.lty (hg : TG W0 gx gy) : gy < W0.heap.size := by obtain ⟨a, b, h⟩ := hg.ty; exact h.lt
theorem TI.nx_ {vx2 : Value} {nx2 ax2 : Nat} {lx2 : List PT} (h : TI W0 wr gx gy vx nx lx ax vy ny ly ay vo out) (hg : TG W0 gx gy) (ht : Tp_ w1 gx vx2 nx2 lx2 ax2)
    (htr : ∀ W, Sl W 3 vx nx (opv lx) → Sl W 3 vx2 nx2 (opv lx2)) (ho : Only (fun k => k = gx) wr w1) : TI W0 w1 gx gy vx2 nx2 lx2 ax2 vy ny ly ay vo out :=
  ⟨ht.blk, h.by_.only ho (fun e => hg.ne e.symm), htr _ h.sx, h.sy, ht.ok, h.oy, own_only h.own ho (fun k hk e => by have := (h.own.lt k hk).1; have := hg.ltx; omega), h.only.step ho (fun _ _ e => .inl e)⟩
theorem TI.ny_ {vy2 : Value} {ny2 ay2 : Nat} {ly2 : List PT} (h : TI W0 wr gx gy vx nx lx ax vy ny ly ay vo out) (hg : TG W0 gx gy) (ht : Tp_ w1 gy vy2 ny2 ly2 ay2)
    (htr : ∀ W, Sl W 3 vy ny (opv ly) → Sl W 3 vy2 ny2 (opv ly2)) (ho : Only (fun k => k = gy) wr w1) : TI W0 w1 gx gy vx nx lx ax vy2 ny2 ly2 ay2 vo out :=
  ⟨h.bx.only ho (fun e => hg.ne e), ht.blk, h.sx, htr _ h.sy, h.ox, ht.ok, own_only h.own ho (fun k hk e => by have := (h.own.lt k hk).1; have := hg.lty; omega), h.only.step ho (fun _ _ e => .inr e)⟩
theorem TI.alloc (h : TI W0 wr gx gy vx nx lx ax vy ny ly ay vo out) (o : Obj) : TI W0 (wr.alloc o) gx gy vx nx lx ax vy ny ly ay vo out :=
  ⟨h.bx.alloc o, h.by_.alloc o, h.sx, h.sy, h.ox, h.oy, h.own.alloc o, h.only.alloc o⟩
theorem TI.drew (h : TI W0 wr gx gy vx nx lx ax vy ny ly ay vo out) : TI W0 wr.drew gx gy vx nx lx ax vy ny ly ay vo out :=
  ⟨h.bx, h.by_, h.sx, h.sy, h.ox, h.oy, h.own, h.only.drew⟩
theorem TI.add {p : PT} {v2 : Value} {N : Nat} (h : TI W0 wr gx gy vx nx lx ax vy ny ly ay vo out) (hg : TG W0 gx gy) (hN : out.length = N) (ho : w1.ownsRow W0.heap.size 113 3 v2 (N + 1) (opv out ++ p.cells))
    (hb : Below W0.heap.size wr w1) (hgr : wr.grownBy w1 vo.ownBlock) : TI W0 w1 gx gy vx nx lx ax vy ny ly ay v2 (out ++ [p]) := by
  refine ⟨h.bx.below hb hg.ltx, h.by_.below hb hg.lty, h.sx, h.sy, h.ox, h.oy, ?_, h.only.step (Only.of_grown hgr) (fun i hi e => ?_)⟩
  · rw [opv_append, opv_one, List.length_append, hN]; exact ho
  · have := (h.own.lt i e.symm).1
    omega
theorem TI.tkx {m : Nat} (h : TI W0 wr gx gy vx nx lx ax vy ny ly ay vo out) (hg : TG W0 gx gy) (hok : Tok lx (ax + m)) : TI W0 (wr.setCell ⟨gx, 1, none⟩ (.int .i64 ((ax + m : Nat) : Int))) gx gy vx nx lx (ax + m) vy ny ly ay vo out :=
  ⟨h.bx.set_ 1 _, h.by_.far (p := ⟨gx, 1, none⟩) (Ne.symm hg.ne) _, h.sx, h.sy, hok, h.oy, ownsRow_setCell_other h.own (fun e => Nat.lt_irrefl _ (Nat.lt_of_lt_of_le hg.ltx (h.own.lt _ e).1)) _, h.only.setCell (p := ⟨gx, 1, none⟩) (.inl (.inl rfl)) _⟩
theorem TI.tky {m : Nat} (h : TI W0 wr gx gy vx nx lx ax vy ny ly ay vo out) (hg : TG W0 gx gy) (hok : Tok ly (ay + m)) : TI W0 (wr.setCell ⟨gy, 1, none⟩ (.int .i64 ((ay + m : Nat) : Int))) gx gy vx nx lx ax vy ny ly (ay + m) vo out :=
  ⟨h.bx.far (p := ⟨gy, 1, none⟩) hg.ne _, h.by_.set_ 1 _, h.sx, h.sy, h.ox, hok, ownsRow_setCell_other h.own (fun e => Nat.lt_irrefl _ (Nat.lt_of_lt_of_le hg.lty (h.own.lt _ e).1)) _, h.only.setCell (p := ⟨gy, 1, none⟩) (.inl (.inr rfl)) _⟩
end
end Go.Proofs.YtdgdajnbkfmijaaGreatDoor
/- ops.Transform. -/
namespace Go.Proofs.YtdgdajnbkfmijaaGreatDoor
open Go.RowKit
set_option maxRecDepth 100000
theorem tok_bd {l : List PT} {a : Nat} (h : Tok l a) (hb : Tbd l) : a ≤ 4611686018427387903 := by
  cases l with
  | nil => have : a = 0 := h.2; omega
  | cons p l =>
    have h1 : a ≤ p.size := h.2
    obtain ⟨b1, b2, b3⟩ := hb p (by simp)
    rcases (h.1 p (by simp)).cases with ⟨b, hb, rfl⟩ | ⟨n, hn, rfl⟩ | ⟨n, hn, rfl⟩
    · rw [size_put] at h1; dsimp only at b1; omega
    · rw [size_drop] at h1; dsimp only at b3; omega
    · rw [size_keep] at h1; dsimp only at b2; omega
theorem tbd_sub {l l2 : List PT} (h : Tbd l) (hm : ∀ q ∈ l2, q ∈ l) : Tbd l2 := fun p hp => h p (hm p hp)
/-- An operation, or what is wrong. -/
def TrRes (c : Int) (U : List PT) (w : World) (e : Ending) (w' : World) : Prop :=
  Below w.heap.size w w' ∧ ∃ v, e = .returned (.tuple #[v, errOf c]) ∧ (c = 0 → Sl w' 3 v (urun U).length (opv (urun U))) ∧ (c ≠ 0 → v = .slice none 0 0)
def TrNew (c : Int) (U : List PT) (w : World) (e : Ending) (w' : World) : Prop := TrRes c U w e w' ∧ FrE w.heap.size e
/-- What Transform tells. -/
noncomputable def trc (a b : List PT) : Int := if chk2 a b = 0 then (if was a = was b then 0 else 2) else chk2 a b
theorem chk2_good {a b : List PT} (h : chk2 a b = 0) : (∀ p ∈ a, p.Good) ∧ (∀ p ∈ b, p.Good) := by
  unfold chk2 at h
  split at h
  · rename_i h1; exact ⟨chk_good h1, chk_good h⟩
  · rename_i h1; exact absurd h h1
theorem wrap_id {a : Int} (h : 0 ≤ a) (h2 : a ≤ 100000000) : wrap64 a = a := by unfold wrap64; omega
/-- An operation of a moderate size. -/
structure Mo (l : List PT) (n : Nat) : Prop where
  put : ∀ p ∈ l, p.put.length ≤ 35184372087808
  len : n ≤ 2000000
  siz : (∀ p ∈ l, p.arg) → was l ≤ 1000000 ∧ plen l ≤ 900000
theorem Mo.bd {l : List PT} {n : Nat} (h : Mo l n) (ha : ∀ p ∈ l, p.arg) : was l ≤ 1000000 ∧ plen l ≤ 900000 ∧ 0 ≤ was l := ⟨(h.siz ha).1, (h.siz ha).2, was_nn ha⟩
/-- A round's relation. -/
structure TRr (U : List PT) (T : Nat) (f : List PT → List PT → List PT) (m1 m2 : List PT → Nat) (A B : List PT) (W0 wr : World) (gx gy : Nat) (gk : Nat) (vx : Value) (nx : Nat) (lx : List PT) (ax : Nat) (vy : Value) (ny : Nat) (ly : List PT) (ay : Nat) (vo : Value) (out : List PT) : Prop where
  ti : TI W0 wr gx gy vx nx lx ax vy ny ly ay vo out
  arg : ∀ p ∈ out, p.arg
  eq : expand out ++ f (tape lx ax) (tape ly ay) = U
  bal : m1 (tape lx ax) = m2 (tape ly ay)
  hgk : gk = (tape lx ax).length + (tape ly ay).length
  len : out.length + gk ≤ T
  mx : ∀ q ∈ lx, q ∈ A
  my : ∀ q ∈ ly, q ∈ B
theorem Nx.arg_ {u : List PT} {p : PT} {s : Bool} (h : Nx u p s) (hs : s = true) : p.arg ∧ (p.size : Int) = p.keep + p.drop + p.put.length ∧ p.size ≤ u.length := by
  rcases h with ⟨_, ha, r, rfl⟩ | ⟨h, _⟩
  · exact ⟨ha, (exp_meas ha).2.2, by rw [List.length_append]; unfold PT.size; omega⟩
  · subst hs; exact absurd h (by decide)
theorem tok_zero {l : List PT} (h : ∀ p ∈ l, p.arg) : Tok l 0 := ⟨h, by cases l with | nil => rfl | cons => exact Nat.zero_le _⟩
theorem TRr.step {U : List PT} {T : Nat} {f : List PT → List PT → List PT} {m1 m2 : List PT → Nat} {A B : List PT} {W0 wr w' : World} {gx gy gk nx ax ny ay nx2 ax2 ny2 ay2 i j : Nat} {vx vy vo vx2 vy2 vo2 : Value} {lx ly out lx2 ly2 out' : List PT}
    (h : TRr U T f m1 m2 A B W0 wr gx gy gk vx nx lx ax vy ny ly ay vo out) (hti : TI W0 w' gx gy vx2 nx2 lx2 (ax2 + i) vy2 ny2 ly2 (ay2 + j) vo2 out') (harg : ∀ p ∈ out', p.arg)
    (heq : expand out' ++ f ((tape lx ax).drop i) ((tape ly ay).drop j) = expand out ++ f (tape lx ax) (tape ly ay)) (hbal : m1 ((tape lx ax).drop i) = m2 ((tape ly ay).drop j))
    (hi : i ≤ (tape lx ax).length) (hj : j ≤ (tape ly ay).length) (hij : 0 < i + j) (hlen : out'.length ≤ out.length + 1) (hp1 : tape lx2 ax2 = tape lx ax) (hp2 : tape ly2 ay2 = tape ly ay)
    (hm1 : ∀ q ∈ lx2, q ∈ lx) (hm2 : ∀ q ∈ ly2, q ∈ ly) : ((tape lx ax).length - i + ((tape ly ay).length - j)) < gk ∧ TRr U T f m1 m2 A B W0 w' gx gy ((tape lx ax).length - i + ((tape ly ay).length - j)) vx2 nx2 lx2 (ax2 + i) vy2 ny2 ly2 (ay2 + j) vo2 out' := by
  have e1 : tape lx2 (ax2 + i) = (tape lx ax).drop i := by rw [tape_take, hp1]
  have e2 : tape ly2 (ay2 + j) = (tape ly ay).drop j := by rw [tape_take, hp2]
  have hg := h.hgk
  have hl := h.len
  refine ⟨by omega, hti, harg, ?_, ?_, ?_, by omega, fun q hq => h.mx q (hm1 q hq), fun q hq => h.my q (hm2 q hq)⟩
  · rw [e1, e2, heq, h.eq]
  · rw [e1, e2, hbal]
  · rw [e1, e2, List.length_drop, List.length_drop]
theorem snoc_arg {out : List PT} {p : PT} (h : ∀ q ∈ out, q.arg) (hp : p.arg) : ∀ q ∈ out ++ [p], q.arg := by
  intro q hq
  rw [List.mem_append] at hq
  rcases hq with hq | hq
  · exact h q hq
  · obtain rfl := List.mem_singleton.1 hq
    exact hp
section
attribute [local go_sem] add_mk
set_option maxHeartbeats 16000000 in
theorem otrans_new {la lb : List PT} {va vb : Value} {na nb : Nat} {first : Bool} {w : World} (hg : Hdl w) (ha : Sl w 3 va na (opv la)) (hb : Sl w 3 vb nb (opv lb)) (hfa : Mo la na) (hfb : Mo lb nb) :
    Calls Tryz.prog 93 #[va, vb, .bool first] w (TrNew (trc la lb) (tr first (expand (norm la)) (expand (norm lb))) w) := by
  have hla : la.length = na := by have := ha.len; rw [opv_length] at this; omega
  have hlb : lb.length = nb := by have := hb.len; rw [opv_length] at this; omega
  have HG := Hd.mk hg
  have HA := Hd.mk ha
  have HB := Hd.mk hb
  have hna := hfa.len
  have hnb := hfb.len
  have HFA := Hd.mk hfa
  have HFB := Hd.mk hfb
  obtain ⟨A1, c1, rfl, -⟩ := ha
  obtain ⟨A2, c2, rfl, -⟩ := hb
  clear hg hfa hfb
  go_enter Tryz.func93, Tryz.ntmps93
  go_wp2_with fail
  refine (checked_calls HG.out HA.out HB.out HFA.out.put HFB.out.put).mono ?_
  rintro e w1 ⟨rfl, hb1⟩
  have HB1 := Hd.mk hb1
  clear hb1
  by_cases h0 : chk2 la lb = 0
  · obtain ⟨ga, gb⟩ := chk2_good h0
    have harga : ∀ p ∈ la, p.arg := fun p hp => (ga p hp).1
    have hargb : ∀ p ∈ lb, p.arg := fun p hp => (gb p hp).1
    obtain ⟨f1, f2, f3⟩ := HFA.out.bd harga
    obtain ⟨f4, f5, f6⟩ := HFB.out.bd hargb
    have ea := wrap_id f3 (by omega)
    have eb := wrap_id f6 (by omega)
    have HEA := Hd.mk ea
    have HEB := Hd.mk eb
    have HARA := Hd.mk harga
    have HARB := Hd.mk hargb
    have HWA : Hd (was la ≤ 1000000 ∧ plen la ≤ 900000 ∧ 0 ≤ was la) := ⟨by omega, by omega, f3⟩
    have HWB : Hd (was lb ≤ 1000000 ∧ plen lb ≤ 900000 ∧ 0 ≤ was lb) := ⟨by omega, by omega, f6⟩
    rw [h0, errOf_zero]
    have H0 := Hd.mk h0
    clear h0 ga gb harga hargb f1 f2 f3 f4 f5 f6 ea eb
    go_wp2_with fail
    refine (olens_calls (HA.out.below HB1.out)).mono ?_
    rintro e w2 ⟨he, hb2⟩
    rw [HEA.out] at he
    subst he
    have HB2 := Hd.mk (bstep HB1.out hb2)
    clear hb2
    go_wp2_with fail
    refine (olens_calls (HB.out.below HB2.out)).mono ?_
    rintro e w3 ⟨he, hb3⟩
    rw [HEB.out] at he
    subst he
    have HB3 := Hd.mk (bstep HB2.out hb3)
    clear hb3
    by_cases hw : was la = was lb
    · have HTC : Hd (trc la lb = 0) := ⟨by unfold trc; rw [if_pos H0.out, if_pos hw]⟩
      have HW := Hd.mk hw
      have hw' : (was lb == was la) = true := by rw [hw]; exact beq_self_eq_true _
      clear hw
      go_wp2_with fail
      refine (norm_calls (HA.out.below HB3.out) HARA.out (by have := HWA.out; omega) (by have := HWA.out; omega) (by omega)).mono ?_
      rintro e w4 ⟨⟨v4, rfl, hs4⟩, hb4⟩
      have HB4 := Hd.mk (bstep HB3.out hb4)
      have HS4 := Hd.mk hs4
      obtain ⟨A4, c4, rfl, -⟩ := hs4
      clear hb4
      go_wp2_with fail
      have hx5 : Below w4.heap.size w4 (w4.alloc (.cells #[.slice A4 (norm la).length c4, .int .i64 0] 221)) := ex_alloc (Below.refl _ _) _
      refine (norm_calls (HB.out.below (bstep HB4.out hx5)) HARB.out (by have := HWB.out; omega) (by have := HWB.out; omega) (by omega)).mono ?_
      rintro e w6 ⟨⟨v6, rfl, hs6⟩, hb6⟩
      have HB6 := Hd.mk (bstep (bstep HB4.out hx5) hb6)
      have HX6 := Hd.mk ((Blk.new w4 221 #[.slice A4 (norm la).length c4, .int .i64 0]).below hb6 (by simp))
      have HS5 := Hd.mk ((HS4.out.below hx5).below hb6)
      have HS6 := Hd.mk hs6
      have hz46 : w4.heap.size < w6.heap.size := by have := hb6.size; simp at this; omega
      obtain ⟨A6, c6, rfl, -⟩ := hs6
      clear hb6 hx5
      obtain ⟨no1, no2, no3⟩ := norm_ok HARA.out
      obtain ⟨no4, no5, no6⟩ := norm_ok HARB.out
      have HTI : Hd (TI (w6.alloc (.cells #[.slice A6 (norm lb).length c6, .int .i64 0] 221)) (w6.alloc (.cells #[.slice A6 (norm lb).length c6, .int .i64 0] 221)) w4.heap.size w6.heap.size (.slice A4 (norm la).length c4) (norm la).length (norm la) 0 (.slice A6 (norm lb).length c6) (norm lb).length (norm lb) 0 (.slice none 0 0) []) :=
        ⟨HX6.out.alloc _, Blk.new _ _ _, HS5.out.below (ex_alloc (Below.refl _ _) _), HS6.out.below (ex_alloc (Below.refl _ _) _), tok_zero no1, tok_zero no4, World.ownsRow_nil _ _ _ _, Only.refl _ _⟩
      have HTG : Hd (TG (w6.alloc (.cells #[.slice A6 (norm lb).length c6, .int .i64 0] 221)) w4.heap.size w6.heap.size) := ⟨⟨⟨_, _, HX6.out.alloc _⟩, ⟨_, _, Blk.new _ _ _⟩, by omega⟩⟩
      have HB7 : Hd (Below w.heap.size w (w6.alloc (.cells #[.slice A6 (norm lb).length c6, .int .i64 0] 221))) := ⟨ex_alloc HB6.out _⟩
      obtain ⟨em1, em2, em3⟩ := expand_meas no1
      obtain ⟨em4, em5, em6⟩ := expand_meas no4
      have HTR : Hd (∃ T, T ≤ 4000000 ∧ TRr (tr first (expand (norm la)) (expand (norm lb))) T (tr first) uwas uwas (norm la) (norm lb) (w6.alloc (.cells #[.slice A6 (norm lb).length c6, .int .i64 0] 221)) (w6.alloc (.cells #[.slice A6 (norm lb).length c6, .int .i64 0] 221)) w4.heap.size w6.heap.size T (.slice A4 (norm la).length c4) (norm la).length (norm la) 0 (.slice A6 (norm lb).length c6) (norm lb).length (norm lb) 0 (.slice none 0 0) []) := ⟨by
        have h1 := HWA.out
        have h2 := HWB.out
        have h3 := HW.out
        refine ⟨(expand (norm la)).length + (expand (norm lb)).length, by omega, HTI.out, fun p hp => by simp at hp, by simp [tape, expand_nil], ?_, by simp [tape], by simp, fun q hq => hq, fun q hq => hq⟩
        simp only [tape, List.drop_zero]
        omega⟩
      have HTX : Hd (Tbd (norm la)) := ⟨tbd_of no1 (by have := HWA.out; omega) (by have := HWA.out; omega)⟩
      have HTY : Hd (Tbd (norm lb)) := ⟨tbd_of no4 (by have := HWB.out; omega) (by have := HWB.out; omega)⟩
      have HUL : Hd ((tr first (expand (norm la)) (expand (norm lb))).length ≤ 4000000) := ⟨by have := tr_len first (expand (norm la)) (expand (norm lb)); have h1 := HWA.out; have h2 := HWB.out; omega⟩
      clear no1 no2 no3 no4 no5 no6 em1 em2 em3 em4 em5 em6
      generalize tr first (expand (norm la)) (expand (norm lb)) = U at *
      obtain ⟨T, hT, htr⟩ := HTR.out
      have HTR0 := Hd.mk htr
      have HW0 := Hd.mk hT
      clear htr HTR HTI
      go_wp2_with fail
      generalize (w6.alloc (.cells #[.slice A6 (norm lb).length c6, .int .i64 0] 221)) = W0 at *
      go_loopg [13] T (fun gk so wr => ∃ vx nx lx ax vy ny ly ay out, TRr U T (tr first) uwas uwas (norm la) (norm lb) W0 wr w4.heap.size w6.heap.size gk vx nx lx ax vy ny ly ay so out)
      case atStart => exact ⟨_, _, _, _, _, _, _, _, _, HTR0.out⟩
      case round =>
        obtain ⟨vx, nx, lx, ax, vy, ny, ly, ay, out, hrr⟩ := hrel
        have HRR := Hd.mk hrr
        obtain ⟨Ao, co, rfl⟩ := own_form hrr.ti.own
        clear hrr
        go_wp2_with fail
        refine (tnext_calls (HRR.out.ti.px HTG.out) (tbd_sub HTX.out HRR.out.mx)).mono ?_
        rintro e w7 ⟨vx2, nx2, lx2, ax2, ⟨pk, pd, pb⟩, s, rfl, ht1, htp1, hnx1, htok1, hmem1, htr1, ho1⟩
        have HT1 := Hd.mk (HRR.out.ti.nx_ HTG.out ht1 htr1 ho1)
        have HP1 := Hd.mk htp1
        have HN1 := Hd.mk hnx1
        have HK1 := Hd.mk htok1
        have HM1 := Hd.mk hmem1
        have hz7 := ho1.size
        clear ht1 htp1 hnx1 htok1 hmem1 htr1 ho1
        dsimp only
        go_wp2_with fail
        refine (tnext_calls ((HT1.out.alloc _).py HTG.out) (tbd_sub HTY.out HRR.out.my)).mono ?_
        rintro e w8 ⟨vy2, ny2, ly2, ay2, ⟨qk, qd, qb⟩, t, rfl, ht2, htp2, hnx2, htok2, hmem2, htr2, ho2⟩
        have HT2 := Hd.mk ((HT1.out.alloc _).ny_ HTG.out ht2 htr2 ho2)
        have HP2 := Hd.mk htp2
        have HN2 := Hd.mk hnx2
        have HK2 := Hd.mk htok2
        have HM2 := Hd.mk hmem2
        have HO2 := Hd.mk ho2
        clear ht2 htp2 hnx2 htok2 hmem2 htr2 ho2
        dsimp only
        have hgx : w.heap.size ≤ w4.heap.size := HB4.out.size
        have hgl := HTG.out.ltx
        have hgl2 := HTG.out.lty
        have hz8 := HO2.out.size
        simp only [World.size_alloc] at hz8
        have hW0r := HRR.out.ti.only.size
        have hown0 : ∀ k, (Value.slice Ao out.length co).ownBlock = some k → k < wr.heap.size := fun k hk => (HRR.out.ti.own.lt k hk).2
        have hlen0 := HRR.out.len
        have hT0 := HW0.out
        have hpb := (Blk.new w7 113 #[.int .i64 pk, .int .i64 pd, .string ⟨pb.toArray⟩]).only HO2.out (show ¬ w7.heap.size = w6.heap.size by omega)
        have HPB := Hd.mk hpb
        have p0 := hpb.cell 0
        have p1 := hpb.cell 1
        have p2 := hpb.cell 2
        simp only [List.getElem?_toArray, List.getElem?_cons_zero, List.getElem?_cons_succ] at p0 p1 p2
        have hgp : w7.heap.size < w8.heap.size := by omega
        have HL1 : Hd (out.length + 1 ≤ maxLen) := ⟨by unfold maxLen; omega⟩
        have HL2 : Hd ((out.length + 1) * 32 ≤ 140737488355328) := ⟨by omega⟩
        have HL3 : Hd (W0.heap.size ≤ w8.heap.size + 1) := ⟨by omega⟩
        have HAX := Hd.mk (tok_bd HT2.out.ox (tbd_sub HTX.out (fun q hq => HRR.out.mx q (HM1.out q hq))))
        have HAY := Hd.mk (tok_bd HT2.out.oy (tbd_sub HTY.out (fun q hq => HRR.out.my q (HM2.out q hq))))
        clear hpb
        by_cases hpb0 : pb = []
        · subst hpb0
          by_cases hqb0 : qb = []
          · subst hqb0
            by_cases hst : s = true ∨ t = true
            · skip
              obtain ⟨m, hm0, hmin, hmx, hmy, hbal, hq1, hq2, hq3⟩ := tr_s3 (first := first) (out := out) HN1.out HN2.out rfl rfl HRR.out.bal hst
              have hs1 : s = true := by
                rcases HN1.out with ⟨h, _⟩ | ⟨_, h, _⟩
                · exact h
                · cases h; simp at hmin; omega
              have ht1 : t = true := by
                rcases HN2.out with ⟨h, _⟩ | ⟨_, h, _⟩
                · exact h
                · cases h; simp at hmin; omega
              subst hs1 ht1
              obtain ⟨hpa, hsz1, hsx⟩ := HN1.out.arg_ rfl
              obtain ⟨hqa, hsz2, hsy⟩ := HN2.out.arg_ rfl
              obtain ⟨_, hk0, hd0⟩ := hpa
              obtain ⟨_, hk1, hd1⟩ := hqa
              dsimp only [List.length_nil] at hmin hsz1 hsz2 hk0 hd0 hk1 hd1 hq1 hq2 hq3
              have hgk := HRR.out.hgk
              have hb1 : pk ≤ 4000000 := by omega
              have hb2 : pd ≤ 4000000 := by omega
              have hb3 : qk ≤ 4000000 := by omega
              have hb4 : qd ≤ 4000000 := by omega
              have HTK := Hd.mk (HK1.out m (by omega))
              have HTL := Hd.mk (HK2.out m (by omega))
              have HQ1 := Hd.mk hq1
              have HQ2 := Hd.mk hq2
              have HQ3 := Hd.mk hq3
              have HBAL := Hd.mk hbal
              have HMIN := Hd.mk hmin
              clear hq1 hq2 hq3 hbal hst hmin hsz1 hsz2 hsx hsy
              go_upto_region 13 with fail
              have e20 : (if qk + qd < pk + pd then qk + qd else pk + pd) = (m : Int) := by have := HMIN.out; split <;> omega
              have hm1 : m ≤ 4611686018427387903 := by omega
              have HMX := Hd.mk hmx
              have HMY := Hd.mk hmy
              rw [e20]
              clear e20
              by_cases hqk : 0 < qk
              · by_cases hpk : 0 < pk
                · have HE := Hd.mk (HQ1.out hqk hpk)
                  go_wp2_with (at_builtin; refine append_lit' el_part #[.int .i64 (m : Int), .int .i64 0, .string ⟨#[]⟩] (HT2.out.alloc _).own rfl rfl rfl rfl (by simp) rfl (one3 rfl rfl rfl) HL1.out HL2.out (al_le HL3.out) ?_; intro v9 w9 hown9 hbel9 hgr9 hnew9; obtain ⟨A9, k9, rfl⟩ := own_form hown9; have HT9 := Hd.mk ((HT2.out.alloc _).add (p := ⟨m, 0, []⟩) HTG.out rfl hown9 hbel9 hgr9); clear hown9 hbel9 hgr9 hnew9)
                  have HT10 := Hd.mk (HT9.out.tkx HTG.out HTK.out)
                  refine (ttake_calls (m := m) HT9.out.bx rfl HAX.out hm1).mono ?_
                  rintro e w10 ⟨rfl, rfl⟩
                  go_wp2_with fail
                  refine (ttake_calls (m := m) HT10.out.by_ rfl HAY.out hm1).mono ?_
                  rintro e w10 ⟨rfl, rfl⟩
                  go_wp2_with fail
                  obtain ⟨g1, g2⟩ := HRR.out.step (i := m) (j := m) (HT10.out.tky HTG.out HTL.out) (snoc_arg HRR.out.arg (PT.arg_keep (by omega))) HE.out HBAL.out HMX.out HMY.out (by omega) (by simp) HP1.out HP2.out HM1.out HM2.out
                  go_roundg ((tape lx ax).length - m + ((tape ly ay).length - m))
                  case measure => exact g1
                  case rel => exact ⟨_, _, _, _, _, _, _, _, _, g2⟩
                · have HE := Hd.mk (HQ2.out hqk hpk)
                  go_wp2_with (at_builtin; refine append_lit' el_part #[.int .i64 0, .int .i64 (m : Int), .string ⟨#[]⟩] (HT2.out.alloc _).own rfl rfl rfl rfl (by simp) rfl (one3 rfl rfl rfl) HL1.out HL2.out (al_le HL3.out) ?_; intro v9 w9 hown9 hbel9 hgr9 hnew9; obtain ⟨A9, k9, rfl⟩ := own_form hown9; have HT9 := Hd.mk ((HT2.out.alloc _).add (p := ⟨0, m, []⟩) HTG.out rfl hown9 hbel9 hgr9); clear hown9 hbel9 hgr9 hnew9)
                  have HT10 := Hd.mk (HT9.out.tkx HTG.out HTK.out)
                  refine (ttake_calls (m := m) HT9.out.bx rfl HAX.out hm1).mono ?_
                  rintro e w10 ⟨rfl, rfl⟩
                  go_wp2_with fail
                  refine (ttake_calls (m := m) HT10.out.by_ rfl HAY.out hm1).mono ?_
                  rintro e w10 ⟨rfl, rfl⟩
                  go_wp2_with fail
                  obtain ⟨g1, g2⟩ := HRR.out.step (i := m) (j := m) (HT10.out.tky HTG.out HTL.out) (snoc_arg HRR.out.arg (PT.arg_drop (by omega))) HE.out HBAL.out HMX.out HMY.out (by omega) (by simp) HP1.out HP2.out HM1.out HM2.out
                  go_roundg ((tape lx ax).length - m + ((tape ly ay).length - m))
                  case measure => exact g1
                  case rel => exact ⟨_, _, _, _, _, _, _, _, _, g2⟩
              · have HE := Hd.mk (HQ3.out hqk)
                have HT9 := Hd.mk (HT2.out.alloc (.cells #[.int .i64 qk, .int .i64 qd, .string ⟨#[]⟩] 113))
                go_wp2_with fail
                have HT10 := Hd.mk (HT9.out.tkx HTG.out HTK.out)
                refine (ttake_calls (m := m) HT9.out.bx rfl HAX.out hm1).mono ?_
                rintro e w10 ⟨rfl, rfl⟩
                go_wp2_with fail
                refine (ttake_calls (m := m) HT10.out.by_ rfl HAY.out hm1).mono ?_
                rintro e w10 ⟨rfl, rfl⟩
                go_wp2_with fail
                obtain ⟨g1, g2⟩ := HRR.out.step (i := m) (j := m) (HT10.out.tky HTG.out HTL.out) HRR.out.arg HE.out HBAL.out HMX.out HMY.out (by omega) (by simp) HP1.out HP2.out HM1.out HM2.out
                go_roundg ((tape lx ax).length - m + ((tape ly ay).length - m))
                case measure => exact g1
                case rel => exact ⟨_, _, _, _, _, _, _, _, _, g2⟩
            · have hs0 : s = false := Bool.eq_false_iff.2 (fun e => hst (.inl e))
              have ht0 : t = false := Bool.eq_false_iff.2 (fun e => hst (.inr e))
              subst hs0 ht0
              have hnil : tape lx ax = [] ∧ tape ly ay = [] := by
                refine ⟨?_, ?_⟩
                · rcases HN1.out with ⟨h, _⟩ | ⟨_, _, h⟩
                  · exact absurd h (by decide)
                  · exact h
                · rcases HN2.out with ⟨h, _⟩ | ⟨_, _, h⟩
                  · exact absurd h (by decide)
                  · exact h
              have HU : Hd (expand out = U) := ⟨by have := HRR.out.eq; rw [hnil.1, hnil.2, tr] at this; simpa using this⟩
              have HM : Hd (was out ≤ 4000000 ∧ plen out ≤ 4000000) := ⟨by
                obtain ⟨_, _, e3⟩ := expand_meas HRR.out.arg
                have h1 := HUL.out
                have h2 := was_nn HRR.out.arg
                rw [HU.out] at e3
                omega⟩
              clear hst hnil
              go_wp2_with fail
              refine (norm_new (Sl.of_own (HT2.out.alloc _).own) HRR.out.arg (by have := HM.out; omega) (by have := HM.out; omega) (by omega)).mono ?_
              rintro e w9 ⟨⟨⟨v9, rfl, hs9⟩, hb9⟩, hf9⟩
              have HS9 := Hd.mk hs9
              have HF9 : Hd (Frs w.heap.size v9) := ⟨(hf9 _ rfl).mono (by have h1 := HB7.out.size; have h2 := HT2.out.only.size; simp only [World.size_alloc]; omega)⟩
              clear hf9
              obtain ⟨A9, c9, rfl, -⟩ := hs9
              have HB9 : Hd (Below w.heap.size w w9) := ⟨bstep (ex_alloc (HB7.out.trans (HT2.out.only.below HB7.out.size (fun k hk => by rintro (e | e) <;> omega))) _) hb9⟩
              clear hb9
              have HFI : Hd (norm out = urun U) := ⟨by rw [norm_urun HRR.out.arg, HU.out]⟩
              go_wp2_with fail
              go_ret2
              exact ⟨⟨HB9.out, .slice A9 (norm out).length c9, by rw [HTC.out]; rfl, fun _ => by rw [← HFI.out]; exact HS9.out, fun h => absurd HTC.out h⟩, frE HF9.out⟩
          · have hqb' : (qb == []) = false := by rw [beq_eq_false_iff_ne]; exact hqb0
            obtain ⟨ht, hpa, heq, hbal, hle⟩ := tr_s2 (first := first) (out := out) HN1.out HN2.out hqb0 (.inr rfl)
            subst ht
            have HPA := Hd.mk hpa
            have HEQ := Hd.mk heq
            have HBAL := Hd.mk hbal
            obtain ⟨hqa, hsz, _⟩ := HN2.out.arg_ rfl
            obtain ⟨_, hk0, hd0⟩ := hqa
            dsimp only at hle hsz hk0 hd0
            have hql := List.length_pos_iff.2 hqb0
            have HTK := Hd.mk (HK2.out qb.length (by omega))
            have hql2 : qb.length ≤ 4611686018427387903 := by have := HRR.out.hgk; omega
            clear heq hbal hsz hpa
            cases s
            all_goals
              go_wp2_with (at_builtin; refine append_lit' el_part #[.int .i64 (qb.length : Int), .int .i64 0, .string ⟨#[]⟩] (HT2.out.alloc _).own rfl rfl rfl rfl (by simp) rfl (one3 rfl rfl rfl) HL1.out HL2.out (al_le HL3.out) ?_; intro v9 w9 hown9 hbel9 hgr9 hnew9; obtain ⟨A9, k9, rfl⟩ := own_form hown9; have HT9 := Hd.mk ((HT2.out.alloc _).add (p := ⟨qb.length, 0, []⟩) HTG.out rfl hown9 hbel9 hgr9); have hpb9 := (HPB.out.alloc _).only (Only.of_grown hgr9) (fun e => by have := hown0 _ e.symm; omega); have hqb9 := (Blk.new w8 113 #[.int .i64 qk, .int .i64 qd, .string ⟨qb.toArray⟩]).only (Only.of_grown hgr9) (fun e => by have := hown0 _ e.symm; omega); have P0 := hpb9.cell 0; have P1 := hpb9.cell 1; have P2 := hpb9.cell 2; have Q0 := hqb9.cell 0; have Q1 := hqb9.cell 1; have Q2 := hqb9.cell 2; simp only [List.getElem?_toArray, List.getElem?_cons_zero, List.getElem?_cons_succ] at P0 P1 P2 Q0 Q1 Q2; clear hown9 hbel9 hgr9 hnew9 hpb9 hqb9)
              refine (ttake_calls (m := qb.length) HT9.out.by_ rfl HAY.out hql2).mono ?_
              rintro e w10 ⟨rfl, rfl⟩
              go_wp2_with fail
              obtain ⟨g1, g2⟩ := HRR.out.step (i := 0) (j := qb.length) (HT9.out.tky HTG.out HTK.out) (snoc_arg HRR.out.arg HPA.out) HEQ.out (HRR.out.bal.trans HBAL.out.symm) (Nat.zero_le _) (by omega) (by omega) (by simp) HP1.out HP2.out HM1.out HM2.out
              go_roundg ((tape lx ax).length - 0 + ((tape ly ay).length - qb.length))
              case measure => exact g1
              case rel => exact ⟨_, _, _, _, _, _, _, _, _, g2⟩
        · have hpb' : (pb == []) = false := by rw [beq_eq_false_iff_ne]; exact hpb0
          by_cases hqb0 : qb = []
          · subst hqb0
            cases first
            · skip
              obtain ⟨hs, hpa, heq, hbal, hle⟩ := tr_s1 (first := false) (out := out) HN1.out HN2.out hpb0 (.inr rfl)
              subst hs
              have HPA := Hd.mk hpa
              have HEQ := Hd.mk heq
              have HBAL := Hd.mk hbal
              have hsz := (HN1.out.arg_ rfl).2.1
              obtain ⟨_, hk0, hd0⟩ := hpa
              dsimp only at hle hsz hk0 hd0
              have hpl := List.length_pos_iff.2 hpb0
              have HTK := Hd.mk (HK1.out pb.length (by omega))
              have hpl2 : pb.length ≤ 4611686018427387903 := by have := HRR.out.hgk; omega
              clear heq hbal hsz
              go_wp2_with (at_builtin; refine append_lit' el_part #[.int .i64 pk, .int .i64 pd, .string ⟨pb.toArray⟩] (HT2.out.alloc _).own rfl rfl rfl rfl (by simp) rfl (one3 rfl rfl rfl) HL1.out HL2.out (al_le HL3.out) ?_; intro v9 w9 hown9 hbel9 hgr9 hnew9; obtain ⟨A9, k9, rfl⟩ := own_form hown9; have HT9 := Hd.mk ((HT2.out.alloc _).add (p := ⟨pk, pd, pb⟩) HTG.out rfl hown9 hbel9 hgr9); have hpb9 := (HPB.out.alloc _).only (Only.of_grown hgr9) (fun e => by have := hown0 _ e.symm; omega); have hqb9 := (Blk.new w8 113 #[.int .i64 qk, .int .i64 qd, .string ⟨#[]⟩]).only (Only.of_grown hgr9) (fun e => by have := hown0 _ e.symm; omega); have P0 := hpb9.cell 0; have P1 := hpb9.cell 1; have P2 := hpb9.cell 2; have Q0 := hqb9.cell 0; have Q1 := hqb9.cell 1; have Q2 := hqb9.cell 2; simp only [List.getElem?_toArray, List.getElem?_cons_zero, List.getElem?_cons_succ] at P0 P1 P2 Q0 Q1 Q2; clear hown9 hbel9 hgr9 hnew9 hpb9 hqb9)
              refine (ttake_calls (m := pb.length) HT9.out.bx rfl HAX.out hpl2).mono ?_
              rintro e w10 ⟨rfl, rfl⟩
              go_wp2_with fail
              obtain ⟨g1, g2⟩ := HRR.out.step (i := pb.length) (j := 0) (HT9.out.tkx HTG.out HTK.out) (snoc_arg HRR.out.arg HPA.out) HEQ.out (HBAL.out.trans HRR.out.bal) (by omega) (Nat.zero_le _) (by omega) (by simp) HP1.out HP2.out HM1.out HM2.out
              go_roundg ((tape lx ax).length - pb.length + ((tape ly ay).length - 0))
              case measure => exact g1
              case rel => exact ⟨_, _, _, _, _, _, _, _, _, g2⟩
            · skip
              obtain ⟨hs, hpa, heq, hbal, hle⟩ := tr_s1 (first := true) (out := out) HN1.out HN2.out hpb0 (.inl rfl)
              subst hs
              have HPA := Hd.mk hpa
              have HEQ := Hd.mk heq
              have HBAL := Hd.mk hbal
              have hsz := (HN1.out.arg_ rfl).2.1
              obtain ⟨_, hk0, hd0⟩ := hpa
              dsimp only at hle hsz hk0 hd0
              have hpl := List.length_pos_iff.2 hpb0
              have HTK := Hd.mk (HK1.out pb.length (by omega))
              have hpl2 : pb.length ≤ 4611686018427387903 := by have := HRR.out.hgk; omega
              clear heq hbal hsz
              go_wp2_with (at_builtin; refine append_lit' el_part #[.int .i64 pk, .int .i64 pd, .string ⟨pb.toArray⟩] (HT2.out.alloc _).own rfl rfl rfl rfl (by simp) rfl (one3 rfl rfl rfl) HL1.out HL2.out (al_le HL3.out) ?_; intro v9 w9 hown9 hbel9 hgr9 hnew9; obtain ⟨A9, k9, rfl⟩ := own_form hown9; have HT9 := Hd.mk ((HT2.out.alloc _).add (p := ⟨pk, pd, pb⟩) HTG.out rfl hown9 hbel9 hgr9); have hpb9 := (HPB.out.alloc _).only (Only.of_grown hgr9) (fun e => by have := hown0 _ e.symm; omega); have hqb9 := (Blk.new w8 113 #[.int .i64 qk, .int .i64 qd, .string ⟨#[]⟩]).only (Only.of_grown hgr9) (fun e => by have := hown0 _ e.symm; omega); have P0 := hpb9.cell 0; have P1 := hpb9.cell 1; have P2 := hpb9.cell 2; have Q0 := hqb9.cell 0; have Q1 := hqb9.cell 1; have Q2 := hqb9.cell 2; simp only [List.getElem?_toArray, List.getElem?_cons_zero, List.getElem?_cons_succ] at P0 P1 P2 Q0 Q1 Q2; clear hown9 hbel9 hgr9 hnew9 hpb9 hqb9)
              refine (ttake_calls (m := pb.length) HT9.out.bx rfl HAX.out hpl2).mono ?_
              rintro e w10 ⟨rfl, rfl⟩
              go_wp2_with fail
              obtain ⟨g1, g2⟩ := HRR.out.step (i := pb.length) (j := 0) (HT9.out.tkx HTG.out HTK.out) (snoc_arg HRR.out.arg HPA.out) HEQ.out (HBAL.out.trans HRR.out.bal) (by omega) (Nat.zero_le _) (by omega) (by simp) HP1.out HP2.out HM1.out HM2.out
              go_roundg ((tape lx ax).length - pb.length + ((tape ly ay).length - 0))
              case measure => exact g1
              case rel => exact ⟨_, _, _, _, _, _, _, _, _, g2⟩
          · have hqb' : (qb == []) = false := by rw [beq_eq_false_iff_ne]; exact hqb0
            cases first
            · skip
              obtain ⟨ht, hpa, heq, hbal, hle⟩ := tr_s2 (first := false) (out := out) HN1.out HN2.out hqb0 (.inl rfl)
              subst ht
              have HPA := Hd.mk hpa
              have HEQ := Hd.mk heq
              have HBAL := Hd.mk hbal
              obtain ⟨hqa, hsz, _⟩ := HN2.out.arg_ rfl
              obtain ⟨_, hk0, hd0⟩ := hqa
              dsimp only at hle hsz hk0 hd0
              have hql := List.length_pos_iff.2 hqb0
              have HTK := Hd.mk (HK2.out qb.length (by omega))
              have hql2 : qb.length ≤ 4611686018427387903 := by have := HRR.out.hgk; omega
              clear heq hbal hsz hpa
              cases s
              all_goals
                go_wp2_with (at_builtin; refine append_lit' el_part #[.int .i64 (qb.length : Int), .int .i64 0, .string ⟨#[]⟩] (HT2.out.alloc _).own rfl rfl rfl rfl (by simp) rfl (one3 rfl rfl rfl) HL1.out HL2.out (al_le HL3.out) ?_; intro v9 w9 hown9 hbel9 hgr9 hnew9; obtain ⟨A9, k9, rfl⟩ := own_form hown9; have HT9 := Hd.mk ((HT2.out.alloc _).add (p := ⟨qb.length, 0, []⟩) HTG.out rfl hown9 hbel9 hgr9); have hpb9 := (HPB.out.alloc _).only (Only.of_grown hgr9) (fun e => by have := hown0 _ e.symm; omega); have hqb9 := (Blk.new w8 113 #[.int .i64 qk, .int .i64 qd, .string ⟨qb.toArray⟩]).only (Only.of_grown hgr9) (fun e => by have := hown0 _ e.symm; omega); have P0 := hpb9.cell 0; have P1 := hpb9.cell 1; have P2 := hpb9.cell 2; have Q0 := hqb9.cell 0; have Q1 := hqb9.cell 1; have Q2 := hqb9.cell 2; simp only [List.getElem?_toArray, List.getElem?_cons_zero, List.getElem?_cons_succ] at P0 P1 P2 Q0 Q1 Q2; clear hown9 hbel9 hgr9 hnew9 hpb9 hqb9)
                refine (ttake_calls (m := qb.length) HT9.out.by_ rfl HAY.out hql2).mono ?_
                rintro e w10 ⟨rfl, rfl⟩
                go_wp2_with fail
                obtain ⟨g1, g2⟩ := HRR.out.step (i := 0) (j := qb.length) (HT9.out.tky HTG.out HTK.out) (snoc_arg HRR.out.arg HPA.out) HEQ.out (HRR.out.bal.trans HBAL.out.symm) (Nat.zero_le _) (by omega) (by omega) (by simp) HP1.out HP2.out HM1.out HM2.out
                go_roundg ((tape lx ax).length - 0 + ((tape ly ay).length - qb.length))
                case measure => exact g1
                case rel => exact ⟨_, _, _, _, _, _, _, _, _, g2⟩
            · skip
              obtain ⟨hs, hpa, heq, hbal, hle⟩ := tr_s1 (first := true) (out := out) HN1.out HN2.out hpb0 (.inl rfl)
              subst hs
              have HPA := Hd.mk hpa
              have HEQ := Hd.mk heq
              have HBAL := Hd.mk hbal
              have hsz := (HN1.out.arg_ rfl).2.1
              obtain ⟨_, hk0, hd0⟩ := hpa
              dsimp only at hle hsz hk0 hd0
              have hpl := List.length_pos_iff.2 hpb0
              have HTK := Hd.mk (HK1.out pb.length (by omega))
              have hpl2 : pb.length ≤ 4611686018427387903 := by have := HRR.out.hgk; omega
              clear heq hbal hsz
              go_wp2_with (at_builtin; refine append_lit' el_part #[.int .i64 pk, .int .i64 pd, .string ⟨pb.toArray⟩] (HT2.out.alloc _).own rfl rfl rfl rfl (by simp) rfl (one3 rfl rfl rfl) HL1.out HL2.out (al_le HL3.out) ?_; intro v9 w9 hown9 hbel9 hgr9 hnew9; obtain ⟨A9, k9, rfl⟩ := own_form hown9; have HT9 := Hd.mk ((HT2.out.alloc _).add (p := ⟨pk, pd, pb⟩) HTG.out rfl hown9 hbel9 hgr9); have hpb9 := (HPB.out.alloc _).only (Only.of_grown hgr9) (fun e => by have := hown0 _ e.symm; omega); have hqb9 := (Blk.new w8 113 #[.int .i64 qk, .int .i64 qd, .string ⟨qb.toArray⟩]).only (Only.of_grown hgr9) (fun e => by have := hown0 _ e.symm; omega); have P0 := hpb9.cell 0; have P1 := hpb9.cell 1; have P2 := hpb9.cell 2; have Q0 := hqb9.cell 0; have Q1 := hqb9.cell 1; have Q2 := hqb9.cell 2; simp only [List.getElem?_toArray, List.getElem?_cons_zero, List.getElem?_cons_succ] at P0 P1 P2 Q0 Q1 Q2; clear hown9 hbel9 hgr9 hnew9 hpb9 hqb9)
              refine (ttake_calls (m := pb.length) HT9.out.bx rfl HAX.out hpl2).mono ?_
              rintro e w10 ⟨rfl, rfl⟩
              go_wp2_with fail
              obtain ⟨g1, g2⟩ := HRR.out.step (i := pb.length) (j := 0) (HT9.out.tkx HTG.out HTK.out) (snoc_arg HRR.out.arg HPA.out) HEQ.out (HBAL.out.trans HRR.out.bal) (by omega) (Nat.zero_le _) (by omega) (by simp) HP1.out HP2.out HM1.out HM2.out
              go_roundg ((tape lx ax).length - pb.length + ((tape ly ay).length - 0))
              case measure => exact g1
              case rel => exact ⟨_, _, _, _, _, _, _, _, _, g2⟩
    · have HTC : Hd (trc la lb = 2) := ⟨by unfold trc; rw [if_pos H0.out, if_neg hw]⟩
      have hw' : (was lb == was la) = false := by rw [beq_eq_false_iff_ne]; exact fun e => hw e.symm
      clear hw
      go_wp2_with fail
      go_ret2
      exact ⟨⟨HB3.out, .slice none 0 0, by rw [HTC.out]; rfl, fun h => by rw [HTC.out] at h; exact absurd h (by decide), fun _ => rfl⟩, frE (Frs.nil _)⟩
  · have HTC : Hd (trc la lb = chk2 la lb) := ⟨by unfold trc; rw [if_neg h0]⟩
    rw [errOf_ne h0]
    have H0 := Hd.mk h0
    clear h0
    generalize chk2 la lb = z at *
    go_wp2_with fail
    go_ret2
    exact ⟨⟨HB1.out, .slice none 0 0, by rw [HTC.out, errOf_ne H0.out] <;> rfl, fun h => by rw [HTC.out] at h; exact absurd h H0.out, fun _ => rfl⟩, frE (Frs.nil _)⟩
end
end Go.Proofs.YtdgdajnbkfmijaaGreatDoor
/- Apply and Invert in plain Lean. -/
namespace Go.Proofs.YtdgdajnbkfmijaaGreatDoor
open Go.RowKit
def PT.ext (p : PT) : Nat := p.keep.toNat + p.drop.toNat
def wasN : List PT → Nat
  | [] => 0
  | p :: l => p.ext + wasN l
theorem wasN_append (a b : List PT) : wasN (a ++ b) = wasN a + wasN b := by
  induction a with
  | nil => simp [wasN]
  | cons p a ih => rw [List.cons_append, wasN, wasN, ih]; omega
theorem wasN_was {l : List PT} (h : ∀ p ∈ l, p.arg) : (wasN l : Int) = was l := by
  induction l with
  | nil => rfl
  | cons p l ih =>
    obtain ⟨_, h2, h3⟩ := h p (by simp)
    have := ih (fun q hq => h q (by simp [hq]))
    rw [wasN, was, PT.ext]; omega
/-- What comes, from a place on. -/
def aout (s : U.Bs) : Nat → List PT → U.Bs
  | _, [] => []
  | a, p :: l => (s.drop a).take p.keep.toNat ++ p.put ++ aout s (a + p.ext) l
/-- Every part begins and ends at runes' ends. -/
def aok (s : U.Bs) : Nat → List PT → Bool
  | _, [] => true
  | a, p :: l => (edg s a && edg s (a + p.ext)) && aok s (a + p.ext) l
theorem aout_snoc (s : U.Bs) (a : Nat) (l : List PT) (p : PT) : aout s a (l ++ [p]) = aout s a l ++ ((s.drop (a + wasN l)).take p.keep.toNat ++ p.put) := by
  induction l generalizing a with
  | nil => simp [aout, wasN]
  | cons q l ih =>
    rw [List.cons_append, aout, aout, ih, wasN, Nat.add_assoc]
    simp only [List.append_assoc]
theorem aok_snoc (s : U.Bs) (a : Nat) (l : List PT) (p : PT) : aok s a (l ++ [p]) = (aok s a l && (edg s (a + wasN l) && edg s (a + wasN l + p.ext))) := by
  induction l generalizing a with
  | nil => simp [aok, wasN]
  | cons q l ih => rw [List.cons_append, aok, aok, ih, wasN, ← Nat.add_assoc]; simp only [Bool.and_assoc]
theorem aok_take {s : U.Bs} {a : Nat} {l : List PT} (h : aok s a l = true) (k : Nat) : aok s a (l.take k) = true := by
  induction l generalizing a k with
  | nil => simp [aok]
  | cons q l ih =>
    rw [aok, Bool.and_eq_true] at h
    cases k with
    | zero => simp [aok]
    | succ k => rw [List.take_succ_cons, aok, h.1, ih h.2]; rfl
theorem aok_not {s : U.Bs} {l : List PT} {k : Nat} (hk : k < l.length) (h : (edg s (wasN (l.take k)) && edg s (wasN (l.take k) + l[k].ext)) = false) : aok s 0 l = false := by
  by_cases e : aok s 0 l = true
  · have := aok_take e (k + 1)
    rw [List.take_succ_eq_append_getElem hk, aok_snoc, Nat.zero_add, h, Bool.and_false] at this
    exact absurd this (by decide)
  · simpa using e
theorem aout_len (s : U.Bs) (a : Nat) (l : List PT) : (aout s a l).length ≤ wasN l + plen l := by
  induction l generalizing a with
  | nil => simp [aout]
  | cons p l ih =>
    have := ih (a + p.ext)
    rw [aout, wasN, plen, List.length_append, List.length_append, List.length_take]
    unfold PT.ext at *
    omega
/-- What Apply tells. -/
noncomputable def apc (l : List PT) (s : U.Bs) : Int := if chk l s.length = 0 then (if aok s 0 l = true then 0 else 10) else chk l s.length
noncomputable def apr (l : List PT) (s : U.Bs) : U.Bs := if apc l s = 0 then aout s 0 l else []
theorem e2_sum {l : List PT} {n : Int} (h : e2 n l = 0) : was l = n := by
  induction l generalizing n with
  | nil =>
    rw [e2] at h
    by_cases h0 : n = 0
    · rw [was, h0]
    · rw [if_neg h0] at h; exact absurd h (by decide)
  | cons p l ih =>
    rw [e2] at h
    by_cases hc : n < p.keep ∨ n < p.drop
    · rw [if_pos hc] at h; exact absurd h (by decide)
    · rw [if_neg hc] at h
      have := ih h
      rw [was]; omega
theorem chk_sum {l : List PT} {n : Int} (h : chk l n = 0) : was l = n := by
  unfold chk at h
  split at h
  · exact e2_sum h
  · rename_i h1; exact absurd h h1
/-- What stands behind all parts is the text's end. -/
theorem chk_was {l : List PT} {n : Nat} (h : chk l n = 0) : (∀ p ∈ l, p.Good) ∧ wasN l = n := by
  have hg := chk_good h
  refine ⟨hg, ?_⟩
  have ha : ∀ p ∈ l, p.arg := fun p hp => (hg p hp).1
  have := wasN_was ha
  have := chk_sum h
  omega
end Go.Proofs.YtdgdajnbkfmijaaGreatDoor
/- Norm of an operation over runes; what it makes of the bytes. Plain. -/
namespace Go.Proofs.YtdgdajnbkfmijaaGreatDoor
/-- Norm's state, rune by rune: A what stands and is put, c how many are dropped behind it, S the runes gone through. -/
structure NRs (s : NS) (A : List (RU Int)) (c : Nat) (S : List Int) : Prop where
  ex : ∃ X0 R0 ps ds, S = R0 ++ ds ∧ A = X0 ++ ps.map .p ∧ c = ds.length ∧ s.put = U.encs ps ∧ U.AllR ps ∧ s.drop = bl ds ∧ OpR s.out X0 R0
  last : s.out = [] ∨ ∃ i k, 0 < k ∧ s.out = i ++ [⟨k, 0, []⟩]
theorem opR_more {i : List PT} {k0 : Int} {X : List (RU Int)} {R rs : List Int} (hk : 0 < k0) (_hr : rs ≠ []) (h : OpR (i ++ [⟨k0, 0, []⟩]) X R) : OpR (i ++ [⟨k0 + bl rs, 0, []⟩]) (X ++ List.replicate rs.length .k) (R ++ rs) := by
  induction i generalizing X R with
  | nil =>
    rw [List.nil_append] at h ⊢
    generalize hl : [(⟨k0, 0, []⟩ : PT)] = l at h
    cases h with
    | nil => simp at hl
    | put h1 h2 h3 =>
      simp only [List.cons.injEq, PT.mk.injEq] at hl
      omega
    | @keep qs l X R h1 h3 =>
      simp only [List.cons.injEq, PT.mk.injEq] at hl
      obtain ⟨⟨e, -⟩, rfl⟩ := hl
      cases h3
      have hn : qs ++ rs ≠ [] := by simp [h1]
      have := OpR.keep hn OpR.nil
      rw [List.append_nil, List.append_nil] at this
      rw [List.append_nil, List.append_nil, List.replicate_append_replicate, ← List.length_append]
      rw [bl_append] at this
      rw [e, show ((bl qs : Int) + (bl rs : Int)) = ((bl qs + bl rs : Nat) : Int) by omega]
      exact this
    | drop h1 h3 =>
      simp only [List.cons.injEq, PT.mk.injEq] at hl
      omega
  | cons p i ih =>
    rw [List.cons_append] at h ⊢
    generalize hl : p :: (i ++ [(⟨k0, 0, []⟩ : PT)]) = l at h
    cases h with
    | nil => simp at hl
    | put h1 h2 h3 =>
      simp only [List.cons.injEq] at hl
      obtain ⟨rfl, rfl⟩ := hl
      rw [List.append_assoc]
      exact .put h1 h2 (ih h3)
    | keep h1 h3 =>
      simp only [List.cons.injEq] at hl
      obtain ⟨rfl, rfl⟩ := hl
      rw [List.append_assoc, List.append_assoc]
      exact .keep h1 (ih h3)
    | drop h1 h3 =>
      simp only [List.cons.injEq] at hl
      obtain ⟨rfl, rfl⟩ := hl
      rw [List.append_assoc, List.append_assoc]
      exact .drop h1 (ih h3)
theorem opR_flush {ps ds : List Int} (h : U.AllR ps) : OpR (flushP (U.encs ps) (bl ds)) (ps.map .p ++ List.replicate ds.length .d) ds := by
  unfold flushP
  have h2 : OpR (if (0 : Int) < (bl ds : Int) then [⟨0, (bl ds : Int), []⟩] else []) (List.replicate ds.length .d) ds := by
    by_cases hd : ds = []
    · subst hd
      rw [if_neg (by simp)]
      exact .nil
    · have := bl_pos hd
      rw [if_pos (by omega)]
      have := OpR.drop hd OpR.nil
      rwa [List.append_nil, List.append_nil] at this
  by_cases hp : ps = []
  · subst hp
    rw [if_pos U.encs_nil]
    exact h2
  · rw [if_neg (encs_ne hp)]
    exact .put hp h h2
theorem NRs.all_ {s : NS} {A : List (RU Int)} {c : Nat} {S : List Int} (h : NRs s A c S) : OpR s.all (A ++ List.replicate c .d) S := by
  obtain ⟨X0, R0, ps, ds, rfl, rfl, rfl, h1, h2, h3, h4⟩ := h.ex
  unfold NS.all
  rw [h1, h3, List.append_assoc]
  exact h4.append (opR_flush h2)
theorem NRs.zero : NRs .zero [] 0 [] := ⟨⟨[], [], [], [], rfl, rfl, rfl, rfl, fun r hr => by simp at hr, rfl, .nil⟩, .inl rfl⟩
theorem NRs.put_ {s : NS} {A : List (RU Int)} {c : Nat} {S : List Int} (h : NRs s A c S) {r : Int} (hr : U.right r = true) : NRs ⟨s.out, s.put ++ U.enc r, s.drop⟩ (A ++ [.p r]) c S := by
  obtain ⟨⟨X0, R0, ps, ds, e1, rfl, e3, h1, h2, h3, h4⟩, hl⟩ := h
  refine ⟨⟨X0, R0, ps ++ [r], ds, e1, by simp, e3, ?_, ?_, h3, h4⟩, hl⟩
  · dsimp only; rw [h1, U.encs_append, U.encs_cons, U.encs_nil, List.append_nil]
  · intro x hx
    rcases List.mem_append.1 hx with hx | hx
    · exact h2 x hx
    · obtain rfl := List.mem_singleton.1 hx; exact hr
theorem NRs.drop_ {s : NS} {A : List (RU Int)} {c : Nat} {S : List Int} (h : NRs s A c S) (q : Int) : NRs ⟨s.out, s.put, s.drop + (U.wid q : Nat)⟩ A (c + 1) (S ++ [q]) := by
  obtain ⟨⟨X0, R0, ps, ds, e1, rfl, e3, h1, h2, h3, h4⟩, hl⟩ := h
  refine ⟨⟨X0, R0, ps, ds ++ [q], by rw [e1, List.append_assoc], rfl, by simp [e3], h1, h2, ?_, h4⟩, hl⟩
  dsimp only
  rw [h3, bl_append, bl_cons, bl_nil]; omega
theorem NRs.keep_ {s : NS} {A : List (RU Int)} {c : Nat} {S : List Int} (h : NRs s A c S) (q : Int) : NRs (s.kept ⟨(U.wid q : Nat), 0, []⟩) (A ++ List.replicate c .d ++ [.k]) 0 (S ++ [q]) := by
  have hw := U.wid_pos q
  have hq : bl [q] = U.wid q := by rw [bl_cons, bl_nil]; omega
  unfold NS.kept
  split
  · rename_i hc
    refine ⟨⟨A ++ List.replicate c .d ++ [.k], S ++ [q], [], [], by simp, by simp, rfl, rfl, fun r hr => by simp at hr, rfl, ?_⟩, .inr ⟨s.all, (U.wid q : Nat), by omega, rfl⟩⟩
    refine h.all_.append ?_
    have := OpR.keep (rs := [q]) (by simp) OpR.nil
    rw [hq] at this
    exact this
  · rename_i hc
    obtain ⟨⟨X0, R0, ps, ds, rfl, rfl, rfl, h1, h2, h3, h4⟩, hl⟩ := h
    have e1 : ps = [] := by
      by_cases e : ps = []
      · exact e
      · exact absurd (.inl (by rw [h1]; exact encs_ne e)) hc
    have e2 : ds = [] := by
      by_cases e : ds = []
      · exact e
      · exact absurd (.inr (.inl (by rw [h3]; have := bl_pos e; omega))) hc
    subst e1 e2
    rcases hl with hl | ⟨i, k, hk, hl⟩
    · exact absurd (.inr (.inr hl)) hc
    · rw [hl, moreLast_snoc]
      rw [hl] at h4
      have := opR_more (rs := [q]) hk (by simp) h4
      rw [hq] at this
      refine ⟨⟨X0 ++ [.k], R0 ++ [q], [], [], by simp, by simp, rfl, rfl, fun r hr => by simp at hr, rfl, this⟩, .inr ⟨i, k + (U.wid q : Nat), by omega, rfl⟩⟩
def AllP (X : List (RU Int)) : Prop := ∀ r, .p r ∈ X → U.right r = true
theorem nrun_bexp {X : List (RU Int)} {R : List Int} (hx : rwas X = R.length) (hp : AllP X) {s : NS} {A : List (RU Int)} {c : Nat} {S : List Int} (h : NRs s A c S) : OpR (nrun s (bexp X R)).all (A ++ rnm c X) (S ++ R) := by
  induction X generalizing R s A c S with
  | nil =>
    obtain rfl : R = [] := List.length_eq_zero_iff.1 hx.symm
    rw [bexp]
    · rw [nrun_nil, List.append_nil]; exact h.all_
    all_goals simp
  | cons x X ih =>
    have hp' : AllP X := fun r hr => hp r (List.mem_cons_of_mem _ hr)
    cases x with
    | p r =>
      rw [bexp, nrun_append, nrun_bytes, rnm]
      have := ih hx hp' (h.put_ (hp r (by simp)))
      rwa [List.append_assoc] at this
    | k =>
      cases R with
      | nil => simp [rwas] at hx
      | cons q R =>
        obtain ⟨n, hn⟩ := wid_succ q
        rw [bexp, nrun_append, hn, nrun_k1, rnm]
        have h2 := h.keep_ q
        rw [hn] at h2
        have := ih (by simpa [rwas] using hx) hp' h2
        rw [show ((n + 1 : Nat) : Int) = (n : Int) + 1 by omega] at this
        simpa [List.append_assoc] using this
    | d =>
      cases R with
      | nil => simp [rwas] at hx
      | cons q R =>
        rw [bexp, nrun_append, nrun_d1, rnm]
        have := ih (by simpa [rwas] using hx) hp' (h.drop_ q)
        simpa [List.append_assoc] using this
theorem urun_bexp {X : List (RU Int)} {R : List Int} (hx : rwas X = R.length) (hp : AllP X) : OpR (urun (bexp X R)) (rnm 0 X) R := nrun_bexp hx hp NRs.zero
theorem OpR.allP {l : List PT} {X : List (RU Int)} {R : List Int} (h : OpR l X R) : AllP X := by
  induction h with
  | nil => intro r hr; simp at hr
  | put h1 h2 _ ih =>
    intro r hr
    rcases List.mem_append.1 hr with hr | hr
    · obtain ⟨a, ha, e⟩ := List.mem_map.1 hr
      cases e
      exact h2 _ ha
    · exact ih r hr
  | keep h1 _ ih =>
    intro r hr
    rcases List.mem_append.1 hr with hr | hr
    · have := List.eq_of_mem_replicate hr; cases this
    · exact ih r hr
  | drop h1 _ ih =>
    intro r hr
    rcases List.mem_append.1 hr with hr | hr
    · have := List.eq_of_mem_replicate hr; cases this
    · exact ih r hr
theorem OpR.norm_ {l : List PT} {X : List (RU Int)} {R : List Int} (h : OpR l X R) : OpR (norm l) (rnm 0 X) R := by
  rw [norm_urun (fun p hp => (h.arg p hp).1), h.expand_]
  exact urun_bexp h.was_ h.allP
/-- Nothing is wrong with it over the runes' bytes. -/
theorem e2_ok {l : List PT} (h : ∀ p ∈ l, p.arg) {n : Int} (hn : was l = n) : e2 n l = 0 := by
  induction l generalizing n with
  | nil => rw [e2, if_pos (by rw [← hn]; rfl)]
  | cons p l ih =>
    have hp := (h p (by simp)).2
    have hl : 0 ≤ was l := was_nn (fun q hq => h q (by simp [hq]))
    rw [was] at hn
    rw [e2, if_neg (by omega)]
    exact ih (fun q hq => h q (by simp [hq])) (by omega)
theorem OpR.chk_ {l : List PT} {X : List (RU Int)} {R : List Int} (h : OpR l X R) : chk l (bl R) = 0 := by
  unfold chk
  rw [e1_good h.arg, if_pos rfl]
  exact e2_ok (fun p hp => (h.arg p hp).1) h.sizes.1
theorem edg_redg' (s : U.Bs) (a : Nat) : edg s a = redg s a := by
  unfold edg redg U.at_
  rfl
theorem edg_cut {P Q : List Int} (h : U.AllR (P ++ Q)) : edg (U.encs (P ++ Q)) (bl P) = true := by
  rw [edg_redg', redg_iff h (by simp)]
  exact ⟨P, Q, rfl, rfl⟩
theorem encs_mid (P rs R : List Int) : ((U.encs (P ++ (rs ++ R))).drop (bl P)).take (bl rs) = U.encs rs := by
  rw [U.encs_append, U.encs_append]
  unfold bl
  rw [List.drop_left, List.take_left]
/-- What it makes of them. -/
theorem OpR.runs {l : List PT} {X : List (RU Int)} {R : List Int} (h : OpR l X R) (P : List Int) (hP : U.AllR (P ++ R)) :
    aok (U.encs (P ++ R)) (bl P) l = true ∧ aout (U.encs (P ++ R)) (bl P) l = U.encs (rap X R) := by
  induction h generalizing P with
  | nil => exact ⟨rfl, rfl⟩
  | @put rs l X R h1 h2 _ ih =>
    obtain ⟨i1, i2⟩ := ih P hP
    have e := edg_cut hP
    have er : rap (rs.map .p ++ X) R = rs ++ rap X R := by
      clear h1 h2 ih i1 i2
      induction rs with
      | nil => rfl
      | cons r rs ih2 => simp only [List.map_cons, List.cons_append, rap, ih2]
    have hx : (⟨0, 0, U.encs rs⟩ : PT).ext = 0 := rfl
    rw [aok, aout, hx, Nat.add_zero, e, i1, i2, er, U.encs_append rs (rap X R)]
    simp
  | @keep rs l X R h1 _ ih =>
    have hP2 : U.AllR ((P ++ rs) ++ R) := by rwa [List.append_assoc]
    obtain ⟨i1, i2⟩ := ih (P ++ rs) hP2
    have e := edg_cut hP
    have e2 := edg_cut hP2
    have er : rap (List.replicate rs.length .k ++ X) (rs ++ R) = rs ++ rap X R := by
      clear h1 ih i1 i2 hP hP2 e e2
      induction rs with
      | nil => rfl
      | cons r rs ih2 => simp only [List.length_cons, List.replicate_succ, List.cons_append, rap, ih2]
    have hx : (⟨(bl rs : Int), 0, []⟩ : PT).ext = bl rs := by simp [PT.ext]
    rw [List.append_assoc] at i1 i2 e2
    rw [bl_append] at i1 i2 e2
    rw [aok, aout, hx, e, e2, i1, i2, er, U.encs_append rs (rap X R)]
    simp [encs_mid]
  | @drop rs l X R h1 _ ih =>
    have hP2 : U.AllR ((P ++ rs) ++ R) := by rwa [List.append_assoc]
    obtain ⟨i1, i2⟩ := ih (P ++ rs) hP2
    have e := edg_cut hP
    have e2 := edg_cut hP2
    have er : rap (List.replicate rs.length .d ++ X) (rs ++ R) = rap X R := by
      clear h1 ih i1 i2 hP hP2 e e2
      induction rs with
      | nil => rfl
      | cons r rs ih2 => simp only [List.length_cons, List.replicate_succ, List.cons_append, rap, ih2]
    have hx : (⟨0, (bl rs : Int), []⟩ : PT).ext = bl rs := by simp [PT.ext]
    rw [List.append_assoc] at i1 i2 e2
    rw [bl_append] at i1 i2 e2
    rw [aok, aout, hx, e, e2, i1, i2, er]
    simp
theorem OpR.apply {l : List PT} {X : List (RU Int)} {R : List Int} (h : OpR l X R) (hR : U.AllR R) : apc l (U.encs R) = 0 ∧ apr l (U.encs R) = U.encs (rap X R) := by
  obtain ⟨h1, h2⟩ := h.runs [] hR
  have hc := h.chk_
  have h0 : apc l (U.encs R) = 0 := by
    unfold apc
    rw [show ((U.encs R).length : Int) = (bl R : Int) from rfl, hc, if_pos rfl]
    exact if_pos h1
  refine ⟨h0, ?_⟩
  unfold apr
  rw [if_pos h0]
  exact h2
theorem rap_all {X : List (RU Int)} {R : List Int} (hp : AllP X) (hR : U.AllR R) : U.AllR (rap X R) := by
  induction X generalizing R with
  | nil => intro r hr; simp [rap] at hr
  | cons x X ih =>
    have hp' : AllP X := fun r hr => hp r (List.mem_cons_of_mem _ hr)
    cases x with
    | p r =>
      intro q hq
      rw [rap] at hq
      rcases List.mem_cons.1 hq with rfl | hq
      · exact hp _ (by simp)
      · exact ih hp' hR q hq
    | k => cases R with
      | nil => intro q hq; simp [rap] at hq
      | cons s R =>
        intro q hq
        rw [rap] at hq
        rcases List.mem_cons.1 hq with rfl | hq
        · exact hR _ (by simp)
        · exact ih hp' (fun x hx => hR x (by simp [hx])) q hq
    | d => cases R with
      | nil => intro q hq; simp [rap] at hq
      | cons s R => rw [rap]; exact ih hp' (fun x hx => hR x (by simp [hx]))
theorem rtr_mem {first : Bool} {X Y : List (RU Int)} {r : Int} (h : .p r ∈ rtr first X Y) : .p r ∈ X := by
  generalize hm : X.length + Y.length = m
  induction m using Nat.strongRecOn generalizing X Y with
  | _ m ih =>
    have step : ∀ (X' Y' : List (RU Int)), X'.length + Y'.length < m → .p r ∈ rtr first X' Y' → .p r ∈ X' := fun X' Y' h1 h2 => ih _ h1 h2 rfl
    clear ih
    match X, Y with
    | [], [] => simp [rtr] at h
    | .p s :: X, [] => have := step X [] (by simp at hm ⊢; omega); rw [rtr] at h <;> simp_all <;> (rcases h with h | h <;> simp_all)
    | [], .p s :: Y => have := step [] Y (by simp at hm ⊢; omega); simp_all [rtr]
    | .k :: X, [] => simp [rtr] at h
    | .d :: X, [] => simp [rtr] at h
    | [], .k :: X => simp [rtr] at h
    | [], .d :: X => simp [rtr] at h
    | .p s :: X, .p q :: Y =>
      cases first with
      | true => have := step X (.p q :: Y) (by simp at hm ⊢; omega); rw [rtr] at h <;> simp_all <;> (rcases h with h | h <;> simp_all)
      | false => have := step (.p s :: X) Y (by simp at hm ⊢; omega); simp_all [rtr]
    | .p s :: X, .k :: Y => have := step X (.k :: Y) (by simp at hm ⊢; omega); rw [rtr] at h <;> simp_all <;> (rcases h with h | h <;> simp_all)
    | .p s :: X, .d :: Y => have := step X (.d :: Y) (by simp at hm ⊢; omega); rw [rtr] at h <;> simp_all <;> (rcases h with h | h <;> simp_all)
    | .k :: X, .p s :: Y => have := step (.k :: X) Y (by simp at hm ⊢; omega); simp_all [rtr]
    | .d :: X, .p s :: Y => have := step (.d :: X) Y (by simp at hm ⊢; omega); simp_all [rtr]
    | .k :: X, .k :: Y => have := step X Y (by simp at hm ⊢; omega); simp_all [rtr]
    | .k :: X, .d :: Y => have := step X Y (by simp at hm ⊢; omega); simp_all [rtr]
    | .d :: X, .k :: Y => have := step X Y (by simp at hm ⊢; omega); simp_all [rtr]
    | .d :: X, .d :: Y => have := step X Y (by simp at hm ⊢; omega); simp_all [rtr]
end Go.Proofs.YtdgdajnbkfmijaaGreatDoor
/- edge of both; ref.Apply, ref.Invert. -/
namespace Go.Proofs.YtdgdajnbkfmijaaGreatDoor
open Go.RowKit
set_option maxRecDepth 100000
set_option maxHeartbeats 1000000 in
theorem oedge_calls (s : U.Bs) (a : Nat) (w : World) (h : a ≤ s.length) :
    Calls Tryz.prog 140 #[.string ⟨s.toArray⟩, .int .i64 a] w fun e w' => e = .returned (.bool (edg s a)) ∧ w' = w := by
  by_cases ha : a = s.length
  · subst ha
    rw [edg_end]
    have hb : ((s.length : Int) == s.length) = true := beq_self_eq_true _
    go_enter Tryz.func140, Tryz.ntmps140
    go_wp2_with fail
    go_ret
    exact ⟨rfl, rfl⟩
  · have hb : ((a : Int) == s.length) = false := by rw [beq_eq_false_iff_ne]; omega
    have hl : a < s.length := by omega
    have e0 := fun hh => getD_at (s := s) (j := a) hl hh
    by_cases hc : U.cont (U.at_ s a) = true
    · have hE : edg s a = false := by simp [edg, ha, hc]
      rw [hE]
      have h1 := contT hc
      clear hE hc
      generalize U.at_ s a = c at *
      have hc256 : c.toNat < 256 := c.toNat_lt
      go_enter Tryz.func140, Tryz.ntmps140
      go_wp2_with fail
      go_ret
      exact ⟨rfl, rfl⟩
    · have hE : edg s a = true := by simp [edg, hc]
      rw [hE]
      have h1 := contF hc
      clear hE hc
      generalize U.at_ s a = c at *
      have hc256 : c.toNat < 256 := c.toNat_lt
      go_enter Tryz.func140, Tryz.ntmps140
      go_wp2_with fail
      go_ret
      exact ⟨rfl, rfl⟩
end Go.Proofs.YtdgdajnbkfmijaaGreatDoor
/- A document's units: where runes are cut. Plain. -/
namespace Go.Proofs.YtdgdajnbkfmijaaGreatDoor
theorem nat_and_high (n : Nat) (h : n < 65536) : n &&& 64512 = n / 1024 * 1024 := by
  apply Nat.eq_of_testBit_eq
  intro i
  have e1 : n / 1024 * 1024 = (n >>> 10) <<< 10 := by rw [Nat.shiftLeft_eq, Nat.shiftRight_eq_div_pow]
  have e2 : (64512 : Nat) = (2 ^ 6 - 1) <<< 10 := by decide
  rw [Nat.testBit_and, e1, e2, Nat.testBit_shiftLeft, Nat.testBit_shiftLeft, Nat.testBit_two_pow_sub_one, Nat.testBit_shiftRight]
  by_cases h1 : 10 ≤ i
  · have e3 : 10 + (i - 10) = i := by omega
    rw [e3]
    by_cases h2 : i < 16
    · simp [h1]; omega
    · have : n.testBit i = false := Nat.testBit_lt_two_pow (Nat.lt_of_lt_of_le h (by have := Nat.pow_le_pow_right (n := 2) (by decide) (by omega : 16 ≤ i); exact this))
      rw [this]; simp
  · simp [h1]
theorem and64512 {x : Int} (h : 0 ≤ x ∧ x < 65536) : bits .and .u16 x 64512 = x / 1024 * 1024 := by
  obtain ⟨n, rfl⟩ := Int.eq_ofNat_of_zero_le h.1
  have e := nat_and_high n (by omega)
  have h1 : ((n : Int).toNat) = n := by omega
  show IntKind.u16.wrap ((BitVec.ofInt 16 (n : Int) &&& BitVec.ofInt 16 64512).toNat : Int) = _
  rw [BitVec.toNat_and]
  have e1 : (BitVec.ofInt 16 (n : Int)).toNat = n := by simp; omega
  have e2 : (BitVec.ofInt 16 64512).toNat = 64512 := by decide
  rw [e1, e2, e]
  unfold IntKind.wrap
  simp [IntKind.signed, IntKind.bits]
  omega
theorem getD_l {α : Type} {a b : List α} {k : Nat} {d : α} (h : k < a.length) : (a ++ b).getD k d = a.getD k d := by
  rw [List.getD_eq_getElem?_getD, List.getD_eq_getElem?_getD, List.getElem?_append_left h]
theorem getD_r {α : Type} {a b : List α} {k : Nat} {d : α} (h : a.length ≤ k) : (a ++ b).getD k d = b.getD (k - a.length) d := by
  rw [List.getD_eq_getElem?_getD, List.getD_eq_getElem?_getD, List.getElem?_append_right h]
/-- A half that is the first of two. -/
def isHigh (x : Int) : Bool := decide (55296 ≤ x ∧ x < 56320)
/-- A place of halves within a rune. -/
def hInner (l : List Int) (a : Nat) : Bool := decide (0 < a) && decide (a < l.length) && isHigh (l.getD (a - 1) 0)
theorem hv_getD_last {r : Int} (h : U.right r = true) : isHigh ((U.hv r).getD (U.hwid r - 1) 0) = false := by
  have hr := U.right_iff.1 h
  unfold U.hv U.hwid isHigh
  split
  · rw [decide_eq_false_iff_not]; simp; omega
  · rw [decide_eq_false_iff_not]; simp; omega
theorem hv_getD_first {r : Int} (h : U.right r = true) (h2 : U.hwid r = 2) : isHigh ((U.hv r).getD 0 0) = true := by
  have hr := U.right_iff.1 h
  unfold U.hwid at h2
  split at h2
  · omega
  · rename_i h3
    unfold U.hv isHigh
    rw [if_neg h3, decide_eq_true_iff]; simp; omega
theorem hInner_iff {R : List Int} (h : U.AllR R) {a : Nat} (ha : a ≤ (U.hvs R).length) : hInner (U.hvs R) a = false ↔ ∃ p q, R = p ++ q ∧ (U.hvs p).length = a := by
  induction R generalizing a with
  | nil =>
    have : a = 0 := by simpa [U.hvs_nil] using ha
    subst this
    exact ⟨fun _ => ⟨[], [], rfl, rfl⟩, fun _ => by simp [hInner]⟩
  | cons r R ih =>
    have hr := h r (by simp)
    have hR : U.AllR R := fun x hx => h x (by simp [hx])
    have hw := U.hwid_pos r
    have hw2 := U.hwid_le r
    have hl : (U.hvs (r :: R)).length = U.hwid r + (U.hvs R).length := by rw [U.hvs_cons, List.length_append, U.hv_length]
    by_cases h0 : a = 0
    · subst h0
      exact ⟨fun _ => ⟨[], r :: R, rfl, rfl⟩, fun _ => by simp [hInner]⟩
    · by_cases h1 : a < U.hwid r
      · have h2 : U.hwid r = 2 := by omega
        have h3 : a = 1 := by omega
        subst h3
        have e : (U.hvs (r :: R)).getD (1 - 1) 0 = (U.hv r).getD 0 0 := by
          rw [U.hvs_cons, getD_l (by rw [U.hv_length]; omega)]
        constructor
        · intro hi
          unfold hInner at hi
          rw [e, hv_getD_first hr h2, decide_eq_true (by omega), decide_eq_true (by omega)] at hi
          cases hi
        · rintro ⟨p, q, e1, e2⟩
          cases p with
          | nil => simp [U.hvs_nil] at e2
          | cons x p =>
            rw [List.cons_append] at e1
            obtain ⟨rfl, -⟩ := List.cons.inj e1
            rw [U.hvs_cons, List.length_append, U.hv_length] at e2
            omega
      · obtain ⟨b, rfl⟩ : ∃ b, a = U.hwid r + b := ⟨a - U.hwid r, by omega⟩
        have hb : b ≤ (U.hvs R).length := by omega
        have key : hInner (U.hvs (r :: R)) (U.hwid r + b) = hInner (U.hvs R) b := by
          unfold hInner
          rw [hl]
          by_cases hb0 : b = 0
          · subst hb0
            have e : (U.hvs (r :: R)).getD (U.hwid r + 0 - 1) 0 = (U.hv r).getD (U.hwid r - 1) 0 := by
              rw [U.hvs_cons, Nat.add_zero, getD_l (by rw [U.hv_length]; omega)]
            rw [e, hv_getD_last hr]
            simp
          · have e : (U.hvs (r :: R)).getD (U.hwid r + b - 1) 0 = (U.hvs R).getD (b - 1) 0 := by
              rw [U.hvs_cons, getD_r (by rw [U.hv_length]; omega), U.hv_length]
              congr 1; omega
            rw [e]
            have e1 : decide (0 < U.hwid r + b) = decide (0 < b) := decide_eq_decide.2 (by omega)
            have e2 : decide (U.hwid r + b < U.hwid r + (U.hvs R).length) = decide (b < (U.hvs R).length) := decide_eq_decide.2 (by omega)
            rw [e1, e2]
        rw [key, ih hR hb]
        constructor
        · rintro ⟨p, q, rfl, e⟩
          exact ⟨r :: p, q, rfl, by rw [U.hvs_cons, List.length_append, U.hv_length, e]⟩
        · rintro ⟨p, q, e1, e2⟩
          cases p with
          | nil => simp [U.hvs_nil] at e2; omega
          | cons x p =>
            rw [List.cons_append] at e1
            obtain ⟨rfl, rfl⟩ := List.cons.inj e1
            rw [U.hvs_cons, List.length_append, U.hv_length] at e2
            exact ⟨p, q, rfl, by omega⟩
end Go.Proofs.YtdgdajnbkfmijaaGreatDoor
