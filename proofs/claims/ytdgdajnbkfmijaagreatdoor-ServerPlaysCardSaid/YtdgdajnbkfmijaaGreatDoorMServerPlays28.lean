/- Several texts of the proof, one behind the other: OpX, OpXT, OpXC. -/
import Derived.Test.YtdgdajnbkfmijaaGreatDoorMServerPlays27
import Derived.Test.YtdgdajnbkfmijaaGreatDoorMServerPlays19
import Derived.Test.YtdgdajnbkfmijaaGreatDoorMServerPlays22
/- (*tape).take; the two tapes at a round's head. -/
namespace Go.Proofs.YtdgdajnbkfmijaaGreatDoor
open Go.RowKit
set_option maxRecDepth 100000
set_option maxHeartbeats 1000000 in
theorem ttake_calls {g a m : Nat} {v : Value} {k : Int} {w : World} (hb : Blk w g 221 #[v, .int .i64 a]) (hk : k = m) (ha : a ≤ 4611686018427387903) (hm : m ≤ 4611686018427387903) :
    Calls Tryz.prog 123 #[.pointer (some ⟨g, 0, none⟩), .int .i64 k] w fun e w' => e = .returned (.tuple #[]) ∧ w' = w.setCell ⟨g, 1, none⟩ (.int .i64 ((a + m : Nat) : Int)) := by
  subst hk
  have c0 := hb.cell 0
  have c1 := hb.cell 1
  have cf := hb.frozen
  simp only [List.getElem?_toArray, List.getElem?_cons_zero, List.getElem?_cons_succ] at c0 c1
  clear hb
  go_enter Tryz.func123, Tryz.ntmps123
  go_wp2_with fail
  go_end0
  exact ⟨rfl, by go_num⟩
/-- What bytes come to, in least form. -/
def urun (u : List PT) : List PT := (nrun .zero u).all
theorem norm_urun {l : List PT} (h : ∀ p ∈ l, p.arg) : norm l = urun (expand l) := by unfold norm urun; rw [nrun_expand _ h]
theorem exp_meas {p : PT} (h : p.arg) : (uwas p.exp : Int) = p.keep + p.drop ∧ (ucomes p.exp : Int) = p.keep + p.put.length ∧ (p.exp.length : Int) = p.keep + p.drop + p.put.length := by
  rcases h.cases with ⟨b, hb, rfl⟩ | ⟨n, hn, rfl⟩ | ⟨n, hn, rfl⟩
  · rw [exp_put, uwas_b, ucomes_b]; simp
  · rw [exp_drop, ucomes_d]
    have := uwas_unit n true
    simp only [unit, if_true] at this
    rw [this]; simp
  · rw [exp_keep, ucomes_k]
    have := uwas_unit n false
    simp only [unit, if_false, Bool.false_eq_true] at this
    rw [this]; simp
theorem expand_meas {l : List PT} (h : ∀ p ∈ l, p.arg) : (uwas (expand l) : Int) = was l ∧ (ucomes (expand l) : Int) = comes l ∧ ((expand l).length : Int) = was l + plen l := by
  induction l with
  | nil => simp [expand, uwas, ucomes, was, comes, plen]
  | cons p l ih =>
    obtain ⟨a, b, c⟩ := ih (fun q hq => h q (by simp [hq]))
    obtain ⟨d, e, f⟩ := exp_meas (h p (by simp))
    rw [expand_cons, uwas_append, ucomes_append, List.length_append, was, comes, plen]
    exact ⟨by omega, by omega, by omega⟩
theorem tr_len (first : Bool) (x y : List PT) : (tr first x y).length ≤ x.length + y.length := by
  induction x, y using tr.induct (first := first) with
  | case1 p x q y h ih => rw [tr, if_pos h]; simp at ih ⊢; omega
  | case2 p x q y h h2 ih => rw [tr, if_neg h, if_pos h2]; simp at ih ⊢; omega
  | case3 p x q y h h2 h3 ih => rw [tr, if_neg h, if_neg h2, if_pos h3]; simp at ih ⊢; omega
  | case4 p x q y h h2 h3 ih => rw [tr, if_neg h, if_neg h2, if_neg h3]; simp at ih ⊢; omega
  | case5 p x h ih => rw [tr, if_pos h]; simp at ih ⊢; omega
  | case6 p x h => rw [tr, if_neg h]; simp
  | case7 q y h ih => rw [tr, if_pos h]; simp at ih ⊢; omega
  | case8 q y h => rw [tr, if_neg h]; simp
  | case9 => rw [tr]; simp
theorem cm_len (x y : List PT) : (cm x y).length ≤ x.length + y.length := by
  induction x, y using cm.induct with
  | case1 p x q y h ih => rw [cm, if_pos h]; simp at ih ⊢; omega
  | case2 p x q y h h2 ih => rw [cm, if_neg h, if_pos h2]; simp at ih ⊢; omega
  | case3 p x q y h h2 h3 ih => rw [cm, if_neg h, if_neg h2, if_pos h3]; split <;> simp at ih ⊢ <;> omega
  | case4 p x q y h h2 h3 ih => rw [cm, if_neg h, if_neg h2, if_neg h3]; split <;> simp at ih ⊢ <;> omega
  | case5 p x h ih => rw [cm, if_pos h]; simp at ih ⊢; omega
  | case6 p x h => rw [cm, if_neg h]; simp
  | case7 q y h ih => rw [cm, if_pos h]; simp at ih ⊢; omega
  | case8 q y h => rw [cm, if_neg h]; simp
  | case9 => rw [cm]; simp
theorem tbd_of {l : List PT} (h : ∀ p ∈ l, p.arg) (hw : was l ≤ 1000000) (hp : plen l ≤ 1000000) : Tbd l := by
  intro p hp'
  obtain ⟨_, h2, h3⟩ := h p hp'
  suffices hs : p.keep + p.drop ≤ was l ∧ p.put.length ≤ plen l by omega
  clear hw hp
  induction l with
  | nil => simp at hp'
  | cons q l ih =>
    have hn := was_nn (l := l) (fun r hr => h r (by simp [hr]))
    obtain ⟨_, h4, h5⟩ := h q (by simp)
    rw [was, plen]
    rcases List.mem_cons.1 hp' with e | e
    · subst e; omega
    · obtain ⟨a, b⟩ := ih (fun r hr => h r (by simp [hr])) e
      omega
/-- The two tapes, and what comes, at a round's head. W0: the world ahead of the loop. -/
structure TI (W0 wr : World) (gx gy : Nat) (vx : Value) (nx : Nat) (lx : List PT) (ax : Nat) (vy : Value) (ny : Nat) (ly : List PT) (ay : Nat) (vo : Value) (out : List PT) : Prop where
  bx : Blk wr gx 221 #[vx, .int .i64 ax]
  by_ : Blk wr gy 221 #[vy, .int .i64 ay]
  sx : Sl W0 3 vx nx (opv lx)
  sy : Sl W0 3 vy ny (opv ly)
  ox : Tok lx ax
  oy : Tok ly ay
  own : wr.ownsRow W0.heap.size 113 3 vo out.length (opv out)
  only : Only (fun k => k = gx ∨ k = gy) W0 wr
/-- What holds all along: the tapes' own places. -/
structure TG (W0 : World) (gx gy : Nat) : Prop where
  tx : ∃ a b, Blk W0 gx 221 #[a, b]
  ty : ∃ a b, Blk W0 gy 221 #[a, b]
  ne : gx ≠ gy
theorem tape_sl2 {W0 w' : World} {gx gy n : Nat} {l : List PT} {v : Value} (hg : TG W0 gx gy) (hs : Sl W0 3 v n (opv l)) (ho : Only (fun k => k = gx ∨ k = gy) W0 w') : Sl w' 3 v n (opv l) := by
  obtain ⟨a, b, hx⟩ := hg.tx
  obtain ⟨c, d, hy⟩ := hg.ty
  refine hs.only ho ?_
  rintro ⟨b, o, p⟩ c rfl hn h
  cases l with
  | nil => have := hs.len; simp [opv] at this; omega
  | cons q l =>
    obtain ⟨b', o', m, c', rfl, hv, _⟩ := hs.head
    cases hv
    rcases h with h | h
    · exact tape_ne hs (by omega) hx h
    · exact tape_ne hs (by omega) hy h
section
variable {W0 wr w1 : World} {gx gy : Nat} {vx vy vo : Value} {nx ny ax ay : Nat} {lx ly out : List PT}
theorem TI.px (h : TI W0 wr gx gy vx nx lx ax vy ny ly ay vo out) (hg : TG W0 gx gy) : Tp_ wr gx vx nx lx ax := ⟨h.bx, tape_sl2 hg h.sx h.only, h.ox⟩
theorem TI.py (h : TI W0 wr gx gy vx nx lx ax vy ny ly ay vo out) (hg : TG W0 gx gy) : Tp_ wr gy vy ny ly ay := ⟨h.by_, tape_sl2 hg h.sy h.only, h.oy⟩
theorem TG.ltx (hg : TG W0 gx gy) : gx < W0.heap.size := by obtain ⟨a, b, h⟩ := hg.tx; exact h.lt
theorem TG.lty (hg : TG W0 gx gy) : gy < W0.heap.size := by obtain ⟨a, b, h⟩ := hg.ty; exact h.lt
theorem TI.nx_ {vx2 : Value} {nx2 ax2 : Nat} {lx2 : List PT} (h : TI W0 wr gx gy vx nx lx ax vy ny ly ay vo out) (hg : TG W0 gx gy) (ht : Tp_ w1 gx vx2 nx2 lx2 ax2)
    (htr : ∀ W, Sl W 3 vx nx (opv lx) → Sl W 3 vx2 nx2 (opv lx2)) (ho : Only (fun k => k = gx) wr w1) : TI W0 w1 gx gy vx2 nx2 lx2 ax2 vy ny ly ay vo out :=
  ⟨ht.blk, h.by_.only ho (fun e => hg.ne e.symm), htr _ h.sx, h.sy, ht.ok, h.oy, own_only h.own ho (fun k hk e => by have := (h.own.lt k hk).1; have := hg.ltx; omega), h.only.step ho (fun _ _ e => .inl e)⟩
theorem TI.ny_ {vy2 : Value} {ny2 ay2 : Nat} {ly2 : List PT} (h : TI W0 wr gx gy vx nx lx ax vy ny ly ay vo out) (hg : TG W0 gx gy) (ht : Tp_ w1 gy vy2 ny2 ly2 ay2)
    (htr : ∀ W, Sl W 3 vy ny (opv ly) → Sl W 3 vy2 ny2 (opv ly2)) (ho : Only (fun k => k = gy) wr w1) : TI W0 w1 gx gy vx nx lx ax vy2 ny2 ly2 ay2 vo out :=
  ⟨h.bx.only ho (fun e => hg.ne e), ht.blk, h.sx, htr _ h.sy, h.ox, ht.ok, own_only h.own ho (fun k hk e => by have := (h.own.lt k hk).1; have := hg.lty; omega), h.only.step ho (fun _ _ e => .inr e)⟩
theorem TI.alloc (h : TI W0 wr gx gy vx nx lx ax vy ny ly ay vo out) (o : Obj) : TI W0 (wr.alloc o) gx gy vx nx lx ax vy ny ly ay vo out :=
  ⟨h.bx.alloc o, h.by_.alloc o, h.sx, h.sy, h.ox, h.oy, h.own.alloc o, h.only.alloc o⟩
theorem TI.drew (h : TI W0 wr gx gy vx nx lx ax vy ny ly ay vo out) : TI W0 wr.drew gx gy vx nx lx ax vy ny ly ay vo out :=
  ⟨h.bx, h.by_, h.sx, h.sy, h.ox, h.oy, h.own, h.only.drew⟩
theorem TI.add {p : PT} {v2 : Value} {N : Nat} (h : TI W0 wr gx gy vx nx lx ax vy ny ly ay vo out) (hg : TG W0 gx gy) (hN : out.length = N) (ho : w1.ownsRow W0.heap.size 113 3 v2 (N + 1) (opv out ++ p.cells))
    (hb : Below W0.heap.size wr w1) (hgr : wr.grownBy w1 vo.ownBlock) : TI W0 w1 gx gy vx nx lx ax vy ny ly ay v2 (out ++ [p]) := by
  refine ⟨h.bx.below hb hg.ltx, h.by_.below hb hg.lty, h.sx, h.sy, h.ox, h.oy, ?_, h.only.step (Only.of_grown hgr) (fun i hi e => ?_)⟩
  · rw [opv_append, opv_one, List.length_append, hN]; exact ho
  · have := (h.own.lt i e.symm).1
    omega
theorem TI.tkx {m : Nat} (h : TI W0 wr gx gy vx nx lx ax vy ny ly ay vo out) (hg : TG W0 gx gy) (hok : Tok lx (ax + m)) : TI W0 (wr.setCell ⟨gx, 1, none⟩ (.int .i64 ((ax + m : Nat) : Int))) gx gy vx nx lx (ax + m) vy ny ly ay vo out :=
  ⟨h.bx.set_ 1 _, h.by_.far (p := ⟨gx, 1, none⟩) (Ne.symm hg.ne) _, h.sx, h.sy, hok, h.oy, ownsRow_setCell_other h.own (fun e => Nat.lt_irrefl _ (Nat.lt_of_lt_of_le hg.ltx (h.own.lt _ e).1)) _, h.only.setCell (p := ⟨gx, 1, none⟩) (.inl (.inl rfl)) _⟩
theorem TI.tky {m : Nat} (h : TI W0 wr gx gy vx nx lx ax vy ny ly ay vo out) (hg : TG W0 gx gy) (hok : Tok ly (ay + m)) : TI W0 (wr.setCell ⟨gy, 1, none⟩ (.int .i64 ((ay + m : Nat) : Int))) gx gy vx nx lx ax vy ny ly (ay + m) vo out :=
  ⟨h.bx.far (p := ⟨gy, 1, none⟩) hg.ne _, h.by_.set_ 1 _, h.sx, h.sy, h.ox, hok, ownsRow_setCell_other h.own (fun e => Nat.lt_irrefl _ (Nat.lt_of_lt_of_le hg.lty (h.own.lt _ e).1)) _, h.only.setCell (p := ⟨gy, 1, none⟩) (.inl (.inr rfl)) _⟩
end
end Go.Proofs.YtdgdajnbkfmijaaGreatDoor
/- ops.Transform. -/
namespace Go.Proofs.YtdgdajnbkfmijaaGreatDoor
open Go.RowKit
set_option maxRecDepth 100000
theorem tok_bd {l : List PT} {a : Nat} (h : Tok l a) (hb : Tbd l) : a ≤ 4611686018427387903 := by
  cases l with
  | nil => have : a = 0 := h.2; omega
  | cons p l =>
    have h1 : a ≤ p.size := h.2
    obtain ⟨b1, b2, b3⟩ := hb p (by simp)
    rcases (h.1 p (by simp)).cases with ⟨b, hb, rfl⟩ | ⟨n, hn, rfl⟩ | ⟨n, hn, rfl⟩
    · rw [size_put] at h1; dsimp only at b1; omega
    · rw [size_drop] at h1; dsimp only at b3; omega
    · rw [size_keep] at h1; dsimp only at b2; omega
theorem tbd_sub {l l2 : List PT} (h : Tbd l) (hm : ∀ q ∈ l2, q ∈ l) : Tbd l2 := fun p hp => h p (hm p hp)
/-- An operation, or what is wrong. -/
def TrRes (c : Int) (U : List PT) (w : World) (e : Ending) (w' : World) : Prop :=
  Below w.heap.size w w' ∧ ∃ v, e = .returned (.tuple #[v, errOf c]) ∧ (c = 0 → Sl w' 3 v (urun U).length (opv (urun U))) ∧ (c ≠ 0 → v = .slice none 0 0)
def TrNew (c : Int) (U : List PT) (w : World) (e : Ending) (w' : World) : Prop := TrRes c U w e w' ∧ FrE w.heap.size e
/-- What Transform tells. -/
noncomputable def trc (a b : List PT) : Int := if chk2 a b = 0 then (if was a = was b then 0 else 2) else chk2 a b
theorem chk2_good {a b : List PT} (h : chk2 a b = 0) : (∀ p ∈ a, p.Good) ∧ (∀ p ∈ b, p.Good) := by
  unfold chk2 at h
  split at h
  · rename_i h1; exact ⟨chk_good h1, chk_good h⟩
  · rename_i h1; exact absurd h h1
theorem wrap_id {a : Int} (h : 0 ≤ a) (h2 : a ≤ 100000000) : wrap64 a = a := by unfold wrap64; omega
/-- An operation of a moderate size. -/
structure Mo (l : List PT) (n : Nat) : Prop where
  put : ∀ p ∈ l, p.put.length ≤ 35184372087808
  len : n ≤ 2000000
  siz : (∀ p ∈ l, p.arg) → was l ≤ 1000000 ∧ plen l ≤ 900000
theorem Mo.bd {l : List PT} {n : Nat} (h : Mo l n) (ha : ∀ p ∈ l, p.arg) : was l ≤ 1000000 ∧ plen l ≤ 900000 ∧ 0 ≤ was l := ⟨(h.siz ha).1, (h.siz ha).2, was_nn ha⟩
theorem Few.mo {l : List PT} {n : Nat} (h : Few l) (hl : l.length = n) (hn : n ≤ 100) : Mo l n :=
  ⟨fun p hp => by have := (h p hp).1; omega, by omega, fun ha => by have := few_bd h ha; omega⟩
/-- A round's relation. -/
structure TRr (U : List PT) (T : Nat) (f : List PT → List PT → List PT) (m1 m2 : List PT → Nat) (A B : List PT) (W0 wr : World) (gx gy : Nat) (gk : Nat) (vx : Value) (nx : Nat) (lx : List PT) (ax : Nat) (vy : Value) (ny : Nat) (ly : List PT) (ay : Nat) (vo : Value) (out : List PT) : Prop where
  ti : TI W0 wr gx gy vx nx lx ax vy ny ly ay vo out
  arg : ∀ p ∈ out, p.arg
  eq : expand out ++ f (tape lx ax) (tape ly ay) = U
  bal : m1 (tape lx ax) = m2 (tape ly ay)
  hgk : gk = (tape lx ax).length + (tape ly ay).length
  len : out.length + gk ≤ T
  mx : ∀ q ∈ lx, q ∈ A
  my : ∀ q ∈ ly, q ∈ B
theorem Nx.arg_ {u : List PT} {p : PT} {s : Bool} (h : Nx u p s) (hs : s = true) : p.arg ∧ (p.size : Int) = p.keep + p.drop + p.put.length ∧ p.size ≤ u.length := by
  rcases h with ⟨_, ha, r, rfl⟩ | ⟨h, _⟩
  · exact ⟨ha, (exp_meas ha).2.2, by rw [List.length_append]; unfold PT.size; omega⟩
  · subst hs; exact absurd h (by decide)
theorem tok_zero {l : List PT} (h : ∀ p ∈ l, p.arg) : Tok l 0 := ⟨h, by cases l with | nil => rfl | cons => exact Nat.zero_le _⟩
theorem TRr.step {U : List PT} {T : Nat} {f : List PT → List PT → List PT} {m1 m2 : List PT → Nat} {A B : List PT} {W0 wr w' : World} {gx gy gk nx ax ny ay nx2 ax2 ny2 ay2 i j : Nat} {vx vy vo vx2 vy2 vo2 : Value} {lx ly out lx2 ly2 out' : List PT}
    (h : TRr U T f m1 m2 A B W0 wr gx gy gk vx nx lx ax vy ny ly ay vo out) (hti : TI W0 w' gx gy vx2 nx2 lx2 (ax2 + i) vy2 ny2 ly2 (ay2 + j) vo2 out') (harg : ∀ p ∈ out', p.arg)
    (heq : expand out' ++ f ((tape lx ax).drop i) ((tape ly ay).drop j) = expand out ++ f (tape lx ax) (tape ly ay)) (hbal : m1 ((tape lx ax).drop i) = m2 ((tape ly ay).drop j))
    (hi : i ≤ (tape lx ax).length) (hj : j ≤ (tape ly ay).length) (hij : 0 < i + j) (hlen : out'.length ≤ out.length + 1) (hp1 : tape lx2 ax2 = tape lx ax) (hp2 : tape ly2 ay2 = tape ly ay)
    (hm1 : ∀ q ∈ lx2, q ∈ lx) (hm2 : ∀ q ∈ ly2, q ∈ ly) : ((tape lx ax).length - i + ((tape ly ay).length - j)) < gk ∧ TRr U T f m1 m2 A B W0 w' gx gy ((tape lx ax).length - i + ((tape ly ay).length - j)) vx2 nx2 lx2 (ax2 + i) vy2 ny2 ly2 (ay2 + j) vo2 out' := by
  have e1 : tape lx2 (ax2 + i) = (tape lx ax).drop i := by rw [tape_take, hp1]
  have e2 : tape ly2 (ay2 + j) = (tape ly ay).drop j := by rw [tape_take, hp2]
  have hg := h.hgk
  have hl := h.len
  refine ⟨by omega, hti, harg, ?_, ?_, ?_, by omega, fun q hq => h.mx q (hm1 q hq), fun q hq => h.my q (hm2 q hq)⟩
  · rw [e1, e2, heq, h.eq]
  · rw [e1, e2, hbal]
  · rw [e1, e2, List.length_drop, List.length_drop]
theorem snoc_arg {out : List PT} {p : PT} (h : ∀ q ∈ out, q.arg) (hp : p.arg) : ∀ q ∈ out ++ [p], q.arg := by
  intro q hq
  rw [List.mem_append] at hq
  rcases hq with hq | hq
  · exact h q hq
  · obtain rfl := List.mem_singleton.1 hq
    exact hp
section
attribute [local go_sem] add_mk
set_option maxHeartbeats 16000000 in
theorem otrans_new {la lb : List PT} {va vb : Value} {na nb : Nat} {first : Bool} {w : World} (hg : Hdl w) (ha : Sl w 3 va na (opv la)) (hb : Sl w 3 vb nb (opv lb)) (hfa : Mo la na) (hfb : Mo lb nb) :
    Calls Tryz.prog 93 #[va, vb, .bool first] w (TrNew (trc la lb) (tr first (expand (norm la)) (expand (norm lb))) w) := by
  have hla : la.length = na := by have := ha.len; rw [opv_length] at this; omega
  have hlb : lb.length = nb := by have := hb.len; rw [opv_length] at this; omega
  have HG := Hd.mk hg
  have HA := Hd.mk ha
  have HB := Hd.mk hb
  have hna := hfa.len
  have hnb := hfb.len
  have HFA := Hd.mk hfa
  have HFB := Hd.mk hfb
  obtain ⟨A1, c1, rfl, -⟩ := ha
  obtain ⟨A2, c2, rfl, -⟩ := hb
  clear hg hfa hfb
  go_enter Tryz.func93, Tryz.ntmps93
  go_wp2_with fail
  refine (checked_calls HG.out HA.out HB.out HFA.out.put HFB.out.put).mono ?_
  rintro e w1 ⟨rfl, hb1⟩
  have HB1 := Hd.mk hb1
  clear hb1
  by_cases h0 : chk2 la lb = 0
  · obtain ⟨ga, gb⟩ := chk2_good h0
    have harga : ∀ p ∈ la, p.arg := fun p hp => (ga p hp).1
    have hargb : ∀ p ∈ lb, p.arg := fun p hp => (gb p hp).1
    obtain ⟨f1, f2, f3⟩ := HFA.out.bd harga
    obtain ⟨f4, f5, f6⟩ := HFB.out.bd hargb
    have ea := wrap_id f3 (by omega)
    have eb := wrap_id f6 (by omega)
    have HEA := Hd.mk ea
    have HEB := Hd.mk eb
    have HARA := Hd.mk harga
    have HARB := Hd.mk hargb
    have HWA : Hd (was la ≤ 1000000 ∧ plen la ≤ 900000 ∧ 0 ≤ was la) := ⟨by omega, by omega, f3⟩
    have HWB : Hd (was lb ≤ 1000000 ∧ plen lb ≤ 900000 ∧ 0 ≤ was lb) := ⟨by omega, by omega, f6⟩
    rw [h0, errOf_zero]
    have H0 := Hd.mk h0
    clear h0 ga gb harga hargb f1 f2 f3 f4 f5 f6 ea eb
    go_wp2_with fail
    refine (olens_calls (HA.out.below HB1.out)).mono ?_
    rintro e w2 ⟨he, hb2⟩
    rw [HEA.out] at he
    subst he
    have HB2 := Hd.mk (bstep HB1.out hb2)
    clear hb2
    go_wp2_with fail
    refine (olens_calls (HB.out.below HB2.out)).mono ?_
    rintro e w3 ⟨he, hb3⟩
    rw [HEB.out] at he
    subst he
    have HB3 := Hd.mk (bstep HB2.out hb3)
    clear hb3
    by_cases hw : was la = was lb
    · have HTC : Hd (trc la lb = 0) := ⟨by unfold trc; rw [if_pos H0.out, if_pos hw]⟩
      have HW := Hd.mk hw
      have hw' : (was lb == was la) = true := by rw [hw]; exact beq_self_eq_true _
      clear hw
      go_wp2_with fail
      refine (norm_calls (HA.out.below HB3.out) HARA.out (by have := HWA.out; omega) (by have := HWA.out; omega) (by omega)).mono ?_
      rintro e w4 ⟨⟨v4, rfl, hs4⟩, hb4⟩
      have HB4 := Hd.mk (bstep HB3.out hb4)
      have HS4 := Hd.mk hs4
      obtain ⟨A4, c4, rfl, -⟩ := hs4
      clear hb4
      go_wp2_with fail
      have hx5 : Below w4.heap.size w4 (w4.alloc (.cells #[.slice A4 (norm la).length c4, .int .i64 0] 221)) := ex_alloc (Below.refl _ _) _
      refine (norm_calls (HB.out.below (bstep HB4.out hx5)) HARB.out (by have := HWB.out; omega) (by have := HWB.out; omega) (by omega)).mono ?_
      rintro e w6 ⟨⟨v6, rfl, hs6⟩, hb6⟩
      have HB6 := Hd.mk (bstep (bstep HB4.out hx5) hb6)
      have HX6 := Hd.mk ((Blk.new w4 221 #[.slice A4 (norm la).length c4, .int .i64 0]).below hb6 (by simp))
      have HS5 := Hd.mk ((HS4.out.below hx5).below hb6)
      have HS6 := Hd.mk hs6
      have hz46 : w4.heap.size < w6.heap.size := by have := hb6.size; simp at this; omega
      obtain ⟨A6, c6, rfl, -⟩ := hs6
      clear hb6 hx5
      obtain ⟨no1, no2, no3⟩ := norm_ok HARA.out
      obtain ⟨no4, no5, no6⟩ := norm_ok HARB.out
      have HTI : Hd (TI (w6.alloc (.cells #[.slice A6 (norm lb).length c6, .int .i64 0] 221)) (w6.alloc (.cells #[.slice A6 (norm lb).length c6, .int .i64 0] 221)) w4.heap.size w6.heap.size (.slice A4 (norm la).length c4) (norm la).length (norm la) 0 (.slice A6 (norm lb).length c6) (norm lb).length (norm lb) 0 (.slice none 0 0) []) :=
        ⟨HX6.out.alloc _, Blk.new _ _ _, HS5.out.below (ex_alloc (Below.refl _ _) _), HS6.out.below (ex_alloc (Below.refl _ _) _), tok_zero no1, tok_zero no4, World.ownsRow_nil _ _ _ _, Only.refl _ _⟩
      have HTG : Hd (TG (w6.alloc (.cells #[.slice A6 (norm lb).length c6, .int .i64 0] 221)) w4.heap.size w6.heap.size) := ⟨⟨⟨_, _, HX6.out.alloc _⟩, ⟨_, _, Blk.new _ _ _⟩, by omega⟩⟩
      have HB7 : Hd (Below w.heap.size w (w6.alloc (.cells #[.slice A6 (norm lb).length c6, .int .i64 0] 221))) := ⟨ex_alloc HB6.out _⟩
      obtain ⟨em1, em2, em3⟩ := expand_meas no1
      obtain ⟨em4, em5, em6⟩ := expand_meas no4
      have HTR : Hd (∃ T, T ≤ 4000000 ∧ TRr (tr first (expand (norm la)) (expand (norm lb))) T (tr first) uwas uwas (norm la) (norm lb) (w6.alloc (.cells #[.slice A6 (norm lb).length c6, .int .i64 0] 221)) (w6.alloc (.cells #[.slice A6 (norm lb).length c6, .int .i64 0] 221)) w4.heap.size w6.heap.size T (.slice A4 (norm la).length c4) (norm la).length (norm la) 0 (.slice A6 (norm lb).length c6) (norm lb).length (norm lb) 0 (.slice none 0 0) []) := ⟨by
        have h1 := HWA.out
        have h2 := HWB.out
        have h3 := HW.out
        refine ⟨(expand (norm la)).length + (expand (norm lb)).length, by omega, HTI.out, fun p hp => by simp at hp, by simp [tape, expand_nil], ?_, by simp [tape], by simp, fun q hq => hq, fun q hq => hq⟩
        simp only [tape, List.drop_zero]
        omega⟩
      have HTX : Hd (Tbd (norm la)) := ⟨tbd_of no1 (by have := HWA.out; omega) (by have := HWA.out; omega)⟩
      have HTY : Hd (Tbd (norm lb)) := ⟨tbd_of no4 (by have := HWB.out; omega) (by have := HWB.out; omega)⟩
      have HUL : Hd ((tr first (expand (norm la)) (expand (norm lb))).length ≤ 4000000) := ⟨by have := tr_len first (expand (norm la)) (expand (norm lb)); have h1 := HWA.out; have h2 := HWB.out; omega⟩
      clear no1 no2 no3 no4 no5 no6 em1 em2 em3 em4 em5 em6
      generalize tr first (expand (norm la)) (expand (norm lb)) = U at *
      obtain ⟨T, hT, htr⟩ := HTR.out
      have HTR0 := Hd.mk htr
      have HW0 := Hd.mk hT
      clear htr HTR HTI
      go_wp2_with fail
      generalize (w6.alloc (.cells #[.slice A6 (norm lb).length c6, .int .i64 0] 221)) = W0 at *
      go_loopg [13] T (fun gk so wr => ∃ vx nx lx ax vy ny ly ay out, TRr U T (tr first) uwas uwas (norm la) (norm lb) W0 wr w4.heap.size w6.heap.size gk vx nx lx ax vy ny ly ay so out)
      case atStart => exact ⟨_, _, _, _, _, _, _, _, _, HTR0.out⟩
      case round =>
        obtain ⟨vx, nx, lx, ax, vy, ny, ly, ay, out, hrr⟩ := hrel
        have HRR := Hd.mk hrr
        obtain ⟨Ao, co, rfl⟩ := own_form hrr.ti.own
        clear hrr
        go_wp2_with fail
        refine (tnext_calls (HRR.out.ti.px HTG.out) (tbd_sub HTX.out HRR.out.mx)).mono ?_
        rintro e w7 ⟨vx2, nx2, lx2, ax2, ⟨pk, pd, pb⟩, s, rfl, ht1, htp1, hnx1, htok1, hmem1, htr1, ho1⟩
        have HT1 := Hd.mk (HRR.out.ti.nx_ HTG.out ht1 htr1 ho1)
        have HP1 := Hd.mk htp1
        have HN1 := Hd.mk hnx1
        have HK1 := Hd.mk htok1
        have HM1 := Hd.mk hmem1
        have hz7 := ho1.size
        clear ht1 htp1 hnx1 htok1 hmem1 htr1 ho1
        dsimp only
        go_wp2_with fail
        refine (tnext_calls ((HT1.out.alloc _).py HTG.out) (tbd_sub HTY.out HRR.out.my)).mono ?_
        rintro e w8 ⟨vy2, ny2, ly2, ay2, ⟨qk, qd, qb⟩, t, rfl, ht2, htp2, hnx2, htok2, hmem2, htr2, ho2⟩
        have HT2 := Hd.mk ((HT1.out.alloc _).ny_ HTG.out ht2 htr2 ho2)
        have HP2 := Hd.mk htp2
        have HN2 := Hd.mk hnx2
        have HK2 := Hd.mk htok2
        have HM2 := Hd.mk hmem2
        have HO2 := Hd.mk ho2
        clear ht2 htp2 hnx2 htok2 hmem2 htr2 ho2
        dsimp only
        have hgx : w.heap.size ≤ w4.heap.size := HB4.out.size
        have hgl := HTG.out.ltx
        have hgl2 := HTG.out.lty
        have hz8 := HO2.out.size
        simp only [World.size_alloc] at hz8
        have hW0r := HRR.out.ti.only.size
        have hown0 : ∀ k, (Value.slice Ao out.length co).ownBlock = some k → k < wr.heap.size := fun k hk => (HRR.out.ti.own.lt k hk).2
        have hlen0 := HRR.out.len
        have hT0 := HW0.out
        have hpb := (Blk.new w7 113 #[.int .i64 pk, .int .i64 pd, .string ⟨pb.toArray⟩]).only HO2.out (show ¬ w7.heap.size = w6.heap.size by omega)
        have HPB := Hd.mk hpb
        have p0 := hpb.cell 0
        have p1 := hpb.cell 1
        have p2 := hpb.cell 2
        simp only [List.getElem?_toArray, List.getElem?_cons_zero, List.getElem?_cons_succ] at p0 p1 p2
        have hgp : w7.heap.size < w8.heap.size := by omega
        have HL1 : Hd (out.length + 1 ≤ maxLen) := ⟨by unfold maxLen; omega⟩
        have HL2 : Hd ((out.length + 1) * 32 ≤ 140737488355328) := ⟨by omega⟩
        have HL3 : Hd (W0.heap.size ≤ w8.heap.size + 1) := ⟨by omega⟩
        have HAX := Hd.mk (tok_bd HT2.out.ox (tbd_sub HTX.out (fun q hq => HRR.out.mx q (HM1.out q hq))))
        have HAY := Hd.mk (tok_bd HT2.out.oy (tbd_sub HTY.out (fun q hq => HRR.out.my q (HM2.out q hq))))
        clear hpb
        by_cases hpb0 : pb = []
        · subst hpb0
          by_cases hqb0 : qb = []
          · subst hqb0
            by_cases hst : s = true ∨ t = true
            · skip
              obtain ⟨m, hm0, hmin, hmx, hmy, hbal, hq1, hq2, hq3⟩ := tr_s3 (first := first) (out := out) HN1.out HN2.out rfl rfl HRR.out.bal hst
              have hs1 : s = true := by
                rcases HN1.out with ⟨h, _⟩ | ⟨_, h, _⟩
                · exact h
                · cases h; simp at hmin; omega
              have ht1 : t = true := by
                rcases HN2.out with ⟨h, _⟩ | ⟨_, h, _⟩
                · exact h
                · cases h; simp at hmin; omega
              subst hs1 ht1
              obtain ⟨hpa, hsz1, hsx⟩ := HN1.out.arg_ rfl
              obtain ⟨hqa, hsz2, hsy⟩ := HN2.out.arg_ rfl
              obtain ⟨_, hk0, hd0⟩ := hpa
              obtain ⟨_, hk1, hd1⟩ := hqa
              dsimp only [List.length_nil] at hmin hsz1 hsz2 hk0 hd0 hk1 hd1 hq1 hq2 hq3
              have hgk := HRR.out.hgk
              have hb1 : pk ≤ 4000000 := by omega
              have hb2 : pd ≤ 4000000 := by omega
              have hb3 : qk ≤ 4000000 := by omega
              have hb4 : qd ≤ 4000000 := by omega
              have HTK := Hd.mk (HK1.out m (by omega))
              have HTL := Hd.mk (HK2.out m (by omega))
              have HQ1 := Hd.mk hq1
              have HQ2 := Hd.mk hq2
              have HQ3 := Hd.mk hq3
              have HBAL := Hd.mk hbal
              have HMIN := Hd.mk hmin
              clear hq1 hq2 hq3 hbal hst hmin hsz1 hsz2 hsx hsy
              go_upto_region 13 with fail
              have e20 : (if qk + qd < pk + pd then qk + qd else pk + pd) = (m : Int) := by have := HMIN.out; split <;> omega
              have hm1 : m ≤ 4611686018427387903 := by omega
              have HMX := Hd.mk hmx
              have HMY := Hd.mk hmy
              rw [e20]
              clear e20
              by_cases hqk : 0 < qk
              · by_cases hpk : 0 < pk
                · have HE := Hd.mk (HQ1.out hqk hpk)
                  go_wp2_with (at_builtin; refine append_lit' el_part #[.int .i64 (m : Int), .int .i64 0, .string ⟨#[]⟩] (HT2.out.alloc _).own rfl rfl rfl rfl (by simp) rfl (one3 rfl rfl rfl) HL1.out HL2.out (al_le HL3.out) ?_; intro v9 w9 hown9 hbel9 hgr9 hnew9; obtain ⟨A9, k9, rfl⟩ := own_form hown9; have HT9 := Hd.mk ((HT2.out.alloc _).add (p := ⟨m, 0, []⟩) HTG.out rfl hown9 hbel9 hgr9); clear hown9 hbel9 hgr9 hnew9)
                  have HT10 := Hd.mk (HT9.out.tkx HTG.out HTK.out)
                  refine (ttake_calls (m := m) HT9.out.bx rfl HAX.out hm1).mono ?_
                  rintro e w10 ⟨rfl, rfl⟩
                  go_wp2_with fail
                  refine (ttake_calls (m := m) HT10.out.by_ rfl HAY.out hm1).mono ?_
                  rintro e w10 ⟨rfl, rfl⟩
                  go_wp2_with fail
                  obtain ⟨g1, g2⟩ := HRR.out.step (i := m) (j := m) (HT10.out.tky HTG.out HTL.out) (snoc_arg HRR.out.arg (PT.arg_keep (by omega))) HE.out HBAL.out HMX.out HMY.out (by omega) (by simp) HP1.out HP2.out HM1.out HM2.out
                  go_roundg ((tape lx ax).length - m + ((tape ly ay).length - m))
                  case measure => exact g1
                  case rel => exact ⟨_, _, _, _, _, _, _, _, _, g2⟩
                · have HE := Hd.mk (HQ2.out hqk hpk)
                  go_wp2_with (at_builtin; refine append_lit' el_part #[.int .i64 0, .int .i64 (m : Int), .string ⟨#[]⟩] (HT2.out.alloc _).own rfl rfl rfl rfl (by simp) rfl (one3 rfl rfl rfl) HL1.out HL2.out (al_le HL3.out) ?_; intro v9 w9 hown9 hbel9 hgr9 hnew9; obtain ⟨A9, k9, rfl⟩ := own_form hown9; have HT9 := Hd.mk ((HT2.out.alloc _).add (p := ⟨0, m, []⟩) HTG.out rfl hown9 hbel9 hgr9); clear hown9 hbel9 hgr9 hnew9)
                  have HT10 := Hd.mk (HT9.out.tkx HTG.out HTK.out)
                  refine (ttake_calls (m := m) HT9.out.bx rfl HAX.out hm1).mono ?_
                  rintro e w10 ⟨rfl, rfl⟩
                  go_wp2_with fail
                  refine (ttake_calls (m := m) HT10.out.by_ rfl HAY.out hm1).mono ?_
                  rintro e w10 ⟨rfl, rfl⟩
                  go_wp2_with fail
                  obtain ⟨g1, g2⟩ := HRR.out.step (i := m) (j := m) (HT10.out.tky HTG.out HTL.out) (snoc_arg HRR.out.arg (PT.arg_drop (by omega))) HE.out HBAL.out HMX.out HMY.out (by omega) (by simp) HP1.out HP2.out HM1.out HM2.out
                  go_roundg ((tape lx ax).length - m + ((tape ly ay).length - m))
                  case measure => exact g1
                  case rel => exact ⟨_, _, _, _, _, _, _, _, _, g2⟩
              · have HE := Hd.mk (HQ3.out hqk)
                have HT9 := Hd.mk (HT2.out.alloc (.cells #[.int .i64 qk, .int .i64 qd, .string ⟨#[]⟩] 113))
                go_wp2_with fail
                have HT10 := Hd.mk (HT9.out.tkx HTG.out HTK.out)
                refine (ttake_calls (m := m) HT9.out.bx rfl HAX.out hm1).mono ?_
                rintro e w10 ⟨rfl, rfl⟩
                go_wp2_with fail
                refine (ttake_calls (m := m) HT10.out.by_ rfl HAY.out hm1).mono ?_
                rintro e w10 ⟨rfl, rfl⟩
                go_wp2_with fail
                obtain ⟨g1, g2⟩ := HRR.out.step (i := m) (j := m) (HT10.out.tky HTG.out HTL.out) HRR.out.arg HE.out HBAL.out HMX.out HMY.out (by omega) (by simp) HP1.out HP2.out HM1.out HM2.out
                go_roundg ((tape lx ax).length - m + ((tape ly ay).length - m))
                case measure => exact g1
                case rel => exact ⟨_, _, _, _, _, _, _, _, _, g2⟩
            · have hs0 : s = false := Bool.eq_false_iff.2 (fun e => hst (.inl e))
              have ht0 : t = false := Bool.eq_false_iff.2 (fun e => hst (.inr e))
              subst hs0 ht0
              have hnil : tape lx ax = [] ∧ tape ly ay = [] := by
                refine ⟨?_, ?_⟩
                · rcases HN1.out with ⟨h, _⟩ | ⟨_, _, h⟩
                  · exact absurd h (by decide)
                  · exact h
                · rcases HN2.out with ⟨h, _⟩ | ⟨_, _, h⟩
                  · exact absurd h (by decide)
                  · exact h
              have HU : Hd (expand out = U) := ⟨by have := HRR.out.eq; rw [hnil.1, hnil.2, tr] at this; simpa using this⟩
              have HM : Hd (was out ≤ 4000000 ∧ plen out ≤ 4000000) := ⟨by
                obtain ⟨_, _, e3⟩ := expand_meas HRR.out.arg
                have h1 := HUL.out
                have h2 := was_nn HRR.out.arg
                rw [HU.out] at e3
                omega⟩
              clear hst hnil
              go_wp2_with fail
              refine (norm_new (Sl.of_own (HT2.out.alloc _).own) HRR.out.arg (by have := HM.out; omega) (by have := HM.out; omega) (by omega)).mono ?_
              rintro e w9 ⟨⟨⟨v9, rfl, hs9⟩, hb9⟩, hf9⟩
              have HS9 := Hd.mk hs9
              have HF9 : Hd (Frs w.heap.size v9) := ⟨(hf9 _ rfl).mono (by have h1 := HB7.out.size; have h2 := HT2.out.only.size; simp only [World.size_alloc]; omega)⟩
              clear hf9
              obtain ⟨A9, c9, rfl, -⟩ := hs9
              have HB9 : Hd (Below w.heap.size w w9) := ⟨bstep (ex_alloc (HB7.out.trans (HT2.out.only.below HB7.out.size (fun k hk => by rintro (e | e) <;> omega))) _) hb9⟩
              clear hb9
              have HFI : Hd (norm out = urun U) := ⟨by rw [norm_urun HRR.out.arg, HU.out]⟩
              go_wp2_with fail
              go_ret2
              exact ⟨⟨HB9.out, .slice A9 (norm out).length c9, by rw [HTC.out]; rfl, fun _ => by rw [← HFI.out]; exact HS9.out, fun h => absurd HTC.out h⟩, frE HF9.out⟩
          · have hqb' : (qb == []) = false := by rw [beq_eq_false_iff_ne]; exact hqb0
            obtain ⟨ht, hpa, heq, hbal, hle⟩ := tr_s2 (first := first) (out := out) HN1.out HN2.out hqb0 (.inr rfl)
            subst ht
            have HPA := Hd.mk hpa
            have HEQ := Hd.mk heq
            have HBAL := Hd.mk hbal
            obtain ⟨hqa, hsz, _⟩ := HN2.out.arg_ rfl
            obtain ⟨_, hk0, hd0⟩ := hqa
            dsimp only at hle hsz hk0 hd0
            have hql := List.length_pos_iff.2 hqb0
            have HTK := Hd.mk (HK2.out qb.length (by omega))
            have hql2 : qb.length ≤ 4611686018427387903 := by have := HRR.out.hgk; omega
            clear heq hbal hsz hpa
            cases s
            all_goals
              go_wp2_with (at_builtin; refine append_lit' el_part #[.int .i64 (qb.length : Int), .int .i64 0, .string ⟨#[]⟩] (HT2.out.alloc _).own rfl rfl rfl rfl (by simp) rfl (one3 rfl rfl rfl) HL1.out HL2.out (al_le HL3.out) ?_; intro v9 w9 hown9 hbel9 hgr9 hnew9; obtain ⟨A9, k9, rfl⟩ := own_form hown9; have HT9 := Hd.mk ((HT2.out.alloc _).add (p := ⟨qb.length, 0, []⟩) HTG.out rfl hown9 hbel9 hgr9); have hpb9 := (HPB.out.alloc _).only (Only.of_grown hgr9) (fun e => by have := hown0 _ e.symm; omega); have hqb9 := (Blk.new w8 113 #[.int .i64 qk, .int .i64 qd, .string ⟨qb.toArray⟩]).only (Only.of_grown hgr9) (fun e => by have := hown0 _ e.symm; omega); have P0 := hpb9.cell 0; have P1 := hpb9.cell 1; have P2 := hpb9.cell 2; have Q0 := hqb9.cell 0; have Q1 := hqb9.cell 1; have Q2 := hqb9.cell 2; simp only [List.getElem?_toArray, List.getElem?_cons_zero, List.getElem?_cons_succ] at P0 P1 P2 Q0 Q1 Q2; clear hown9 hbel9 hgr9 hnew9 hpb9 hqb9)
              refine (ttake_calls (m := qb.length) HT9.out.by_ rfl HAY.out hql2).mono ?_
              rintro e w10 ⟨rfl, rfl⟩
              go_wp2_with fail
              obtain ⟨g1, g2⟩ := HRR.out.step (i := 0) (j := qb.length) (HT9.out.tky HTG.out HTK.out) (snoc_arg HRR.out.arg HPA.out) HEQ.out (HRR.out.bal.trans HBAL.out.symm) (Nat.zero_le _) (by omega) (by omega) (by simp) HP1.out HP2.out HM1.out HM2.out
              go_roundg ((tape lx ax).length - 0 + ((tape ly ay).length - qb.length))
              case measure => exact g1
              case rel => exact ⟨_, _, _, _, _, _, _, _, _, g2⟩
        · have hpb' : (pb == []) = false := by rw [beq_eq_false_iff_ne]; exact hpb0
          by_cases hqb0 : qb = []
          · subst hqb0
            cases first
            · skip
              obtain ⟨hs, hpa, heq, hbal, hle⟩ := tr_s1 (first := false) (out := out) HN1.out HN2.out hpb0 (.inr rfl)
              subst hs
              have HPA := Hd.mk hpa
              have HEQ := Hd.mk heq
              have HBAL := Hd.mk hbal
              have hsz := (HN1.out.arg_ rfl).2.1
              obtain ⟨_, hk0, hd0⟩ := hpa
              dsimp only at hle hsz hk0 hd0
              have hpl := List.length_pos_iff.2 hpb0
              have HTK := Hd.mk (HK1.out pb.length (by omega))
              have hpl2 : pb.length ≤ 4611686018427387903 := by have := HRR.out.hgk; omega
              clear heq hbal hsz
              go_wp2_with (at_builtin; refine append_lit' el_part #[.int .i64 pk, .int .i64 pd, .string ⟨pb.toArray⟩] (HT2.out.alloc _).own rfl rfl rfl rfl (by simp) rfl (one3 rfl rfl rfl) HL1.out HL2.out (al_le HL3.out) ?_; intro v9 w9 hown9 hbel9 hgr9 hnew9; obtain ⟨A9, k9, rfl⟩ := own_form hown9; have HT9 := Hd.mk ((HT2.out.alloc _).add (p := ⟨pk, pd, pb⟩) HTG.out rfl hown9 hbel9 hgr9); have hpb9 := (HPB.out.alloc _).only (Only.of_grown hgr9) (fun e => by have := hown0 _ e.symm; omega); have hqb9 := (Blk.new w8 113 #[.int .i64 qk, .int .i64 qd, .string ⟨#[]⟩]).only (Only.of_grown hgr9) (fun e => by have := hown0 _ e.symm; omega); have P0 := hpb9.cell 0; have P1 := hpb9.cell 1; have P2 := hpb9.cell 2; have Q0 := hqb9.cell 0; have Q1 := hqb9.cell 1; have Q2 := hqb9.cell 2; simp only [List.getElem?_toArray, List.getElem?_cons_zero, List.getElem?_cons_succ] at P0 P1 P2 Q0 Q1 Q2; clear hown9 hbel9 hgr9 hnew9 hpb9 hqb9)
              refine (ttake_calls (m := pb.length) HT9.out.bx rfl HAX.out hpl2).mono ?_
              rintro e w10 ⟨rfl, rfl⟩
              go_wp2_with fail
              obtain ⟨g1, g2⟩ := HRR.out.step (i := pb.length) (j := 0) (HT9.out.tkx HTG.out HTK.out) (snoc_arg HRR.out.arg HPA.out) HEQ.out (HBAL.out.trans HRR.out.bal) (by omega) (Nat.zero_le _) (by omega) (by simp) HP1.out HP2.out HM1.out HM2.out
              go_roundg ((tape lx ax).length - pb.length + ((tape ly ay).length - 0))
              case measure => exact g1
              case rel => exact ⟨_, _, _, _, _, _, _, _, _, g2⟩
            · skip
              obtain ⟨hs, hpa, heq, hbal, hle⟩ := tr_s1 (first := true) (out := out) HN1.out HN2.out hpb0 (.inl rfl)
              subst hs
              have HPA := Hd.mk hpa
              have HEQ := Hd.mk heq
              have HBAL := Hd.mk hbal
              have hsz := (HN1.out.arg_ rfl).2.1
              obtain ⟨_, hk0, hd0⟩ := hpa
              dsimp only at hle hsz hk0 hd0
              have hpl := List.length_pos_iff.2 hpb0
              have HTK := Hd.mk (HK1.out pb.length (by omega))
              have hpl2 : pb.length ≤ 4611686018427387903 := by have := HRR.out.hgk; omega
              clear heq hbal hsz
              go_wp2_with (at_builtin; refine append_lit' el_part #[.int .i64 pk, .int .i64 pd, .string ⟨pb.toArray⟩] (HT2.out.alloc _).own rfl rfl rfl rfl (by simp) rfl (one3 rfl rfl rfl) HL1.out HL2.out (al_le HL3.out) ?_; intro v9 w9 hown9 hbel9 hgr9 hnew9; obtain ⟨A9, k9, rfl⟩ := own_form hown9; have HT9 := Hd.mk ((HT2.out.alloc _).add (p := ⟨pk, pd, pb⟩) HTG.out rfl hown9 hbel9 hgr9); have hpb9 := (HPB.out.alloc _).only (Only.of_grown hgr9) (fun e => by have := hown0 _ e.symm; omega); have hqb9 := (Blk.new w8 113 #[.int .i64 qk, .int .i64 qd, .string ⟨#[]⟩]).only (Only.of_grown hgr9) (fun e => by have := hown0 _ e.symm; omega); have P0 := hpb9.cell 0; have P1 := hpb9.cell 1; have P2 := hpb9.cell 2; have Q0 := hqb9.cell 0; have Q1 := hqb9.cell 1; have Q2 := hqb9.cell 2; simp only [List.getElem?_toArray, List.getElem?_cons_zero, List.getElem?_cons_succ] at P0 P1 P2 Q0 Q1 Q2; clear hown9 hbel9 hgr9 hnew9 hpb9 hqb9)
              refine (ttake_calls (m := pb.length) HT9.out.bx rfl HAX.out hpl2).mono ?_
              rintro e w10 ⟨rfl, rfl⟩
              go_wp2_with fail
              obtain ⟨g1, g2⟩ := HRR.out.step (i := pb.length) (j := 0) (HT9.out.tkx HTG.out HTK.out) (snoc_arg HRR.out.arg HPA.out) HEQ.out (HBAL.out.trans HRR.out.bal) (by omega) (Nat.zero_le _) (by omega) (by simp) HP1.out HP2.out HM1.out HM2.out
              go_roundg ((tape lx ax).length - pb.length + ((tape ly ay).length - 0))
              case measure => exact g1
              case rel => exact ⟨_, _, _, _, _, _, _, _, _, g2⟩
          · have hqb' : (qb == []) = false := by rw [beq_eq_false_iff_ne]; exact hqb0
            cases first
            · skip
              obtain ⟨ht, hpa, heq, hbal, hle⟩ := tr_s2 (first := false) (out := out) HN1.out HN2.out hqb0 (.inl rfl)
              subst ht
              have HPA := Hd.mk hpa
              have HEQ := Hd.mk heq
              have HBAL := Hd.mk hbal
              obtain ⟨hqa, hsz, _⟩ := HN2.out.arg_ rfl
              obtain ⟨_, hk0, hd0⟩ := hqa
              dsimp only at hle hsz hk0 hd0
              have hql := List.length_pos_iff.2 hqb0
              have HTK := Hd.mk (HK2.out qb.length (by omega))
              have hql2 : qb.length ≤ 4611686018427387903 := by have := HRR.out.hgk; omega
              clear heq hbal hsz hpa
              cases s
              all_goals
                go_wp2_with (at_builtin; refine append_lit' el_part #[.int .i64 (qb.length : Int), .int .i64 0, .string ⟨#[]⟩] (HT2.out.alloc _).own rfl rfl rfl rfl (by simp) rfl (one3 rfl rfl rfl) HL1.out HL2.out (al_le HL3.out) ?_; intro v9 w9 hown9 hbel9 hgr9 hnew9; obtain ⟨A9, k9, rfl⟩ := own_form hown9; have HT9 := Hd.mk ((HT2.out.alloc _).add (p := ⟨qb.length, 0, []⟩) HTG.out rfl hown9 hbel9 hgr9); have hpb9 := (HPB.out.alloc _).only (Only.of_grown hgr9) (fun e => by have := hown0 _ e.symm; omega); have hqb9 := (Blk.new w8 113 #[.int .i64 qk, .int .i64 qd, .string ⟨qb.toArray⟩]).only (Only.of_grown hgr9) (fun e => by have := hown0 _ e.symm; omega); have P0 := hpb9.cell 0; have P1 := hpb9.cell 1; have P2 := hpb9.cell 2; have Q0 := hqb9.cell 0; have Q1 := hqb9.cell 1; have Q2 := hqb9.cell 2; simp only [List.getElem?_toArray, List.getElem?_cons_zero, List.getElem?_cons_succ] at P0 P1 P2 Q0 Q1 Q2; clear hown9 hbel9 hgr9 hnew9 hpb9 hqb9)
                refine (ttake_calls (m := qb.length) HT9.out.by_ rfl HAY.out hql2).mono ?_
                rintro e w10 ⟨rfl, rfl⟩
                go_wp2_with fail
                obtain ⟨g1, g2⟩ := HRR.out.step (i := 0) (j := qb.length) (HT9.out.tky HTG.out HTK.out) (snoc_arg HRR.out.arg HPA.out) HEQ.out (HRR.out.bal.trans HBAL.out.symm) (Nat.zero_le _) (by omega) (by omega) (by simp) HP1.out HP2.out HM1.out HM2.out
                go_roundg ((tape lx ax).length - 0 + ((tape ly ay).length - qb.length))
                case measure => exact g1
                case rel => exact ⟨_, _, _, _, _, _, _, _, _, g2⟩
            · skip
              obtain ⟨hs, hpa, heq, hbal, hle⟩ := tr_s1 (first := true) (out := out) HN1.out HN2.out hpb0 (.inl rfl)
              subst hs
              have HPA := Hd.mk hpa
              have HEQ := Hd.mk heq
              have HBAL := Hd.mk hbal
              have hsz := (HN1.out.arg_ rfl).2.1
              obtain ⟨_, hk0, hd0⟩ := hpa
              dsimp only at hle hsz hk0 hd0
              have hpl := List.length_pos_iff.2 hpb0
              have HTK := Hd.mk (HK1.out pb.length (by omega))
              have hpl2 : pb.length ≤ 4611686018427387903 := by have := HRR.out.hgk; omega
              clear heq hbal hsz
              go_wp2_with (at_builtin; refine append_lit' el_part #[.int .i64 pk, .int .i64 pd, .string ⟨pb.toArray⟩] (HT2.out.alloc _).own rfl rfl rfl rfl (by simp) rfl (one3 rfl rfl rfl) HL1.out HL2.out (al_le HL3.out) ?_; intro v9 w9 hown9 hbel9 hgr9 hnew9; obtain ⟨A9, k9, rfl⟩ := own_form hown9; have HT9 := Hd.mk ((HT2.out.alloc _).add (p := ⟨pk, pd, pb⟩) HTG.out rfl hown9 hbel9 hgr9); have hpb9 := (HPB.out.alloc _).only (Only.of_grown hgr9) (fun e => by have := hown0 _ e.symm; omega); have hqb9 := (Blk.new w8 113 #[.int .i64 qk, .int .i64 qd, .string ⟨qb.toArray⟩]).only (Only.of_grown hgr9) (fun e => by have := hown0 _ e.symm; omega); have P0 := hpb9.cell 0; have P1 := hpb9.cell 1; have P2 := hpb9.cell 2; have Q0 := hqb9.cell 0; have Q1 := hqb9.cell 1; have Q2 := hqb9.cell 2; simp only [List.getElem?_toArray, List.getElem?_cons_zero, List.getElem?_cons_succ] at P0 P1 P2 Q0 Q1 Q2; clear hown9 hbel9 hgr9 hnew9 hpb9 hqb9)
              refine (ttake_calls (m := pb.length) HT9.out.bx rfl HAX.out hpl2).mono ?_
              rintro e w10 ⟨rfl, rfl⟩
              go_wp2_with fail
              obtain ⟨g1, g2⟩ := HRR.out.step (i := pb.length) (j := 0) (HT9.out.tkx HTG.out HTK.out) (snoc_arg HRR.out.arg HPA.out) HEQ.out (HBAL.out.trans HRR.out.bal) (by omega) (Nat.zero_le _) (by omega) (by simp) HP1.out HP2.out HM1.out HM2.out
              go_roundg ((tape lx ax).length - pb.length + ((tape ly ay).length - 0))
              case measure => exact g1
              case rel => exact ⟨_, _, _, _, _, _, _, _, _, g2⟩
    · have HTC : Hd (trc la lb = 2) := ⟨by unfold trc; rw [if_pos H0.out, if_neg hw]⟩
      have hw' : (was lb == was la) = false := by rw [beq_eq_false_iff_ne]; exact fun e => hw e.symm
      clear hw
      go_wp2_with fail
      go_ret2
      exact ⟨⟨HB3.out, .slice none 0 0, by rw [HTC.out]; rfl, fun h => by rw [HTC.out] at h; exact absurd h (by decide), fun _ => rfl⟩, frE (Frs.nil _)⟩
  · have HTC : Hd (trc la lb = chk2 la lb) := ⟨by unfold trc; rw [if_neg h0]⟩
    rw [errOf_ne h0]
    have H0 := Hd.mk h0
    clear h0
    generalize chk2 la lb = z at *
    go_wp2_with fail
    go_ret2
    exact ⟨⟨HB1.out, .slice none 0 0, by rw [HTC.out, errOf_ne H0.out] <;> rfl, fun h => by rw [HTC.out] at h; exact absurd h H0.out, fun _ => rfl⟩, frE (Frs.nil _)⟩
theorem otrans_mo {la lb : List PT} {va vb : Value} {na nb : Nat} {first : Bool} {w : World} (hg : Hdl w) (ha : Sl w 3 va na (opv la)) (hb : Sl w 3 vb nb (opv lb)) (hfa : Mo la na) (hfb : Mo lb nb) :
    Calls Tryz.prog 93 #[va, vb, .bool first] w (TrRes (trc la lb) (tr first (expand (norm la)) (expand (norm lb))) w) := (otrans_new hg ha hb hfa hfb).mono fun _ _ h => h.1
theorem otrans_calls {la lb : List PT} {va vb : Value} {na nb : Nat} {first : Bool} {w : World} (hg : Hdl w) (ha : Sl w 3 va na (opv la)) (hb : Sl w 3 vb nb (opv lb)) (hfa : Few la) (hfb : Few lb) (hna : na ≤ 100) (hnb : nb ≤ 100) :
    Calls Tryz.prog 93 #[va, vb, .bool first] w (TrRes (trc la lb) (tr first (expand (norm la)) (expand (norm lb))) w) :=
  otrans_mo hg ha hb (hfa.mo (by have := ha.len; rw [opv_length] at this; omega) hna) (hfb.mo (by have := hb.len; rw [opv_length] at this; omega) hnb)
end
end Go.Proofs.YtdgdajnbkfmijaaGreatDoor
/- ops.Compose. -/
namespace Go.Proofs.YtdgdajnbkfmijaaGreatDoor
open Go.RowKit
set_option maxRecDepth 100000
/-- What Compose tells. -/
noncomputable def cmc (a b : List PT) : Int := if chk2 a b = 0 then (if comes a = was b then 0 else 2) else chk2 a b
theorem comes_bd {l : List PT} (ha : ∀ p ∈ l, p.arg) : 0 ≤ comes l ∧ comes l ≤ was l + plen l := by
  induction l with
  | nil => simp [comes, was, plen]
  | cons p l ih =>
    have h1 := ih (fun q hq => ha q (by simp [hq]))
    obtain ⟨_, h4, h5⟩ := ha p (by simp)
    rw [comes, was, plen]
    omega
section
attribute [local go_sem] add_mk ext_take
set_option maxHeartbeats 16000000 in
theorem ocomp_new {la lb : List PT} {va vb : Value} {na nb : Nat} {w : World} (hg : Hdl w) (ha : Sl w 3 va na (opv la)) (hb : Sl w 3 vb nb (opv lb)) (hfa : Mo la na) (hfb : Mo lb nb) :
    Calls Tryz.prog 77 #[va, vb] w (TrNew (cmc la lb) (cm (expand la) (expand lb)) w) := by
  have hla : la.length = na := by have := ha.len; rw [opv_length] at this; omega
  have hlb : lb.length = nb := by have := hb.len; rw [opv_length] at this; omega
  have HG := Hd.mk hg
  have HA := Hd.mk ha
  have HB := Hd.mk hb
  have hna := hfa.len
  have hnb := hfb.len
  have HFA := Hd.mk hfa
  have HFB := Hd.mk hfb
  obtain ⟨A1, c1, rfl, -⟩ := ha
  obtain ⟨A2, c2, rfl, -⟩ := hb
  clear hg hfa hfb
  go_enter Tryz.func77, Tryz.ntmps77
  go_wp2_with fail
  refine (checked_calls HG.out HA.out HB.out HFA.out.put HFB.out.put).mono ?_
  rintro e w1 ⟨rfl, hb1⟩
  have HB1 := Hd.mk hb1
  clear hb1
  by_cases h0 : chk2 la lb = 0
  · obtain ⟨ga, gb⟩ := chk2_good h0
    have harga : ∀ p ∈ la, p.arg := fun p hp => (ga p hp).1
    have hargb : ∀ p ∈ lb, p.arg := fun p hp => (gb p hp).1
    obtain ⟨f1, f2, f3⟩ := HFA.out.bd harga
    obtain ⟨f4, f5, f6⟩ := HFB.out.bd hargb
    have f7 := comes_bd harga
    have ea := wrap_id (a := comes la) f7.1 (by omega)
    have eb := wrap_id f6 (by omega)
    have HEA := Hd.mk ea
    have HEB := Hd.mk eb
    have HARA := Hd.mk harga
    have HARB := Hd.mk hargb
    have HWA : Hd (was la ≤ 1000000 ∧ plen la ≤ 900000 ∧ 0 ≤ was la) := ⟨by omega, by omega, f3⟩
    have HWB : Hd (was lb ≤ 1000000 ∧ plen lb ≤ 900000 ∧ 0 ≤ was lb) := ⟨by omega, by omega, f6⟩
    rw [h0, errOf_zero]
    have H0 := Hd.mk h0
    clear h0 ga gb harga hargb f1 f2 f3 f4 f5 f6 f7 ea eb
    go_wp2_with fail
    refine (olens_calls (HA.out.below HB1.out)).mono ?_
    rintro e w2 ⟨he, hb2⟩
    rw [HEA.out] at he
    subst he
    have HB2 := Hd.mk (bstep HB1.out hb2)
    clear hb2
    go_wp2_with fail
    refine (olens_calls (HB.out.below HB2.out)).mono ?_
    rintro e w3 ⟨he, hb3⟩
    rw [HEB.out] at he
    subst he
    have HB3 := Hd.mk (bstep HB2.out hb3)
    clear hb3
    by_cases hw : comes la = was lb
    · have HTC : Hd (cmc la lb = 0) := ⟨by unfold cmc; rw [if_pos H0.out, if_pos hw]⟩
      have HW := Hd.mk hw
      have hw' : (was lb == was lb) = true := beq_self_eq_true _
      rw [hw]
      clear hw
      have hx5 : Below w3.heap.size w3 ((w3.alloc (.cells #[.slice A1 na c1, .int .i64 0] 221)).alloc (.cells #[.slice A2 nb c2, .int .i64 0] 221)) := ex_alloc (ex_alloc (Below.refl _ _) _) _
      have hbx : Blk ((w3.alloc (.cells #[.slice A1 na c1, .int .i64 0] 221)).alloc (.cells #[.slice A2 nb c2, .int .i64 0] 221)) w3.heap.size 221 #[.slice A1 na c1, .int .i64 0] := (Blk.new _ _ _).alloc _
      have hby : Blk ((w3.alloc (.cells #[.slice A1 na c1, .int .i64 0] 221)).alloc (.cells #[.slice A2 nb c2, .int .i64 0] 221)) (w3.heap.size + 1) 221 #[.slice A2 nb c2, .int .i64 0] := by
        have := Blk.new (w3.alloc (.cells #[.slice A1 na c1, .int .i64 0] 221)) 221 #[.slice A2 nb c2, .int .i64 0]
        rwa [World.size_alloc] at this
      have HTI : Hd (TI ((w3.alloc (.cells #[.slice A1 na c1, .int .i64 0] 221)).alloc (.cells #[.slice A2 nb c2, .int .i64 0] 221)) ((w3.alloc (.cells #[.slice A1 na c1, .int .i64 0] 221)).alloc (.cells #[.slice A2 nb c2, .int .i64 0] 221)) w3.heap.size (w3.heap.size + 1) (.slice A1 na c1) na la 0 (.slice A2 nb c2) nb lb 0 (.slice none 0 0) []) :=
        ⟨hbx, hby, (HA.out.below HB3.out).below hx5, (HB.out.below HB3.out).below hx5, tok_zero HARA.out, tok_zero HARB.out, World.ownsRow_nil _ _ _ _, Only.refl _ _⟩
      have HTG : Hd (TG ((w3.alloc (.cells #[.slice A1 na c1, .int .i64 0] 221)).alloc (.cells #[.slice A2 nb c2, .int .i64 0] 221)) w3.heap.size (w3.heap.size + 1)) := ⟨⟨⟨_, _, hbx⟩, ⟨_, _, hby⟩, by omega⟩⟩
      have HB7 : Hd (Below w.heap.size w ((w3.alloc (.cells #[.slice A1 na c1, .int .i64 0] 221)).alloc (.cells #[.slice A2 nb c2, .int .i64 0] 221))) := ⟨bstep HB3.out hx5⟩
      clear hx5 hbx hby
      obtain ⟨em1, em2, em3⟩ := expand_meas HARA.out
      obtain ⟨em4, em5, em6⟩ := expand_meas HARB.out
      have HTR : Hd (∃ T, T ≤ 4000000 ∧ TRr (cm (expand la) (expand lb)) T cm ucomes uwas la lb ((w3.alloc (.cells #[.slice A1 na c1, .int .i64 0] 221)).alloc (.cells #[.slice A2 nb c2, .int .i64 0] 221)) ((w3.alloc (.cells #[.slice A1 na c1, .int .i64 0] 221)).alloc (.cells #[.slice A2 nb c2, .int .i64 0] 221)) w3.heap.size (w3.heap.size + 1) T (.slice A1 na c1) na la 0 (.slice A2 nb c2) nb lb 0 (.slice none 0 0) []) := ⟨by
        have h1 := HWA.out
        have h2 := HWB.out
        have h3 := HW.out
        refine ⟨(expand la).length + (expand lb).length, by omega, HTI.out, fun p hp => by simp at hp, by simp [tape, expand_nil], ?_, by simp [tape], by simp, fun q hq => hq, fun q hq => hq⟩
        simp only [tape, List.drop_zero]
        omega⟩
      have HTX : Hd (Tbd la) := ⟨tbd_of HARA.out (by have := HWA.out; omega) (by have := HWA.out; omega)⟩
      have HTY : Hd (Tbd lb) := ⟨tbd_of HARB.out (by have := HWB.out; omega) (by have := HWB.out; omega)⟩
      have HUL : Hd ((cm (expand la) (expand lb)).length ≤ 4000000) := ⟨by have := cm_len (expand la) (expand lb); have h1 := HWA.out; have h2 := HWB.out; omega⟩
      clear em1 em2 em3 em4 em5 em6
      generalize cm (expand la) (expand lb) = U at *
      obtain ⟨T, hT, htr⟩ := HTR.out
      have HTR0 := Hd.mk htr
      have HW0 := Hd.mk hT
      clear htr HTR HTI
      go_wp2_with fail
      generalize ((w3.alloc (.cells #[.slice A1 na c1, .int .i64 0] 221)).alloc (.cells #[.slice A2 nb c2, .int .i64 0] 221)) = W0 at *
      clear hw'
      go_loopg [11] T (fun gk so wr => ∃ vx nx lx ax vy ny ly ay out, TRr U T cm ucomes uwas la lb W0 wr w3.heap.size (w3.heap.size + 1) gk vx nx lx ax vy ny ly ay so out)
      case atStart => exact ⟨_, _, _, _, _, _, _, _, _, HTR0.out⟩
      case round =>
        obtain ⟨vx, nx, lx, ax, vy, ny, ly, ay, out, hrr⟩ := hrel
        have HRR := Hd.mk hrr
        obtain ⟨Ao, co, rfl⟩ := own_form hrr.ti.own
        clear hrr
        go_wp2_with fail
        refine (tnext_calls (HRR.out.ti.px HTG.out) (tbd_sub HTX.out HRR.out.mx)).mono ?_
        rintro e w7 ⟨vx2, nx2, lx2, ax2, ⟨pk, pd, pb⟩, s, rfl, ht1, htp1, hnx1, htok1, hmem1, htr1, ho1⟩
        have HT1 := Hd.mk (HRR.out.ti.nx_ HTG.out ht1 htr1 ho1)
        have HP1 := Hd.mk htp1
        have HN1 := Hd.mk hnx1
        have HK1 := Hd.mk htok1
        have HM1 := Hd.mk hmem1
        have hz7 := ho1.size
        clear ht1 htp1 hnx1 htok1 hmem1 htr1 ho1
        dsimp only
        go_wp2_with fail
        refine (tnext_calls ((HT1.out.alloc _).py HTG.out) (tbd_sub HTY.out HRR.out.my)).mono ?_
        rintro e w8 ⟨vy2, ny2, ly2, ay2, ⟨qk, qd, qb⟩, t, rfl, ht2, htp2, hnx2, htok2, hmem2, htr2, ho2⟩
        have HT2 := Hd.mk ((HT1.out.alloc _).ny_ HTG.out ht2 htr2 ho2)
        have HP2 := Hd.mk htp2
        have HN2 := Hd.mk hnx2
        have HK2 := Hd.mk htok2
        have HM2 := Hd.mk hmem2
        have HO2 := Hd.mk ho2
        clear ht2 htp2 hnx2 htok2 hmem2 htr2 ho2
        dsimp only
        have hgx : w.heap.size ≤ w3.heap.size := HB3.out.size
        have hgl := HTG.out.ltx
        have hgl2 := HTG.out.lty
        have hz8 := HO2.out.size
        simp only [World.size_alloc] at hz8
        have hW0r := HRR.out.ti.only.size
        have hown0 : ∀ k, (Value.slice Ao out.length co).ownBlock = some k → k < wr.heap.size := fun k hk => (HRR.out.ti.own.lt k hk).2
        have hlen0 := HRR.out.len
        have hT0 := HW0.out
        have hpb := (Blk.new w7 113 #[.int .i64 pk, .int .i64 pd, .string ⟨pb.toArray⟩]).only HO2.out (show ¬ w7.heap.size = w3.heap.size + 1 by omega)
        have HPB := Hd.mk hpb
        have p0 := hpb.cell 0
        have p1 := hpb.cell 1
        have p2 := hpb.cell 2
        simp only [List.getElem?_toArray, List.getElem?_cons_zero, List.getElem?_cons_succ] at p0 p1 p2
        have hgp : w7.heap.size < w8.heap.size := by omega
        have HL1 : Hd (out.length + 1 ≤ maxLen) := ⟨by unfold maxLen; omega⟩
        have HL2 : Hd ((out.length + 1) * 32 ≤ 140737488355328) := ⟨by omega⟩
        have HL3 : Hd (W0.heap.size ≤ w8.heap.size + 1) := ⟨by omega⟩
        have HAX := Hd.mk (tok_bd HT2.out.ox (tbd_sub HTX.out (fun q hq => HRR.out.mx q (HM1.out q hq))))
        have HAY := Hd.mk (tok_bd HT2.out.oy (tbd_sub HTY.out (fun q hq => HRR.out.my q (HM2.out q hq))))
        clear hpb
        by_cases hst : s = true ∨ t = true
        · by_cases hpd : 0 < pd
          · obtain ⟨m, hm0, hpe, heq, hbal, hle⟩ := cm_s1 (out := out) HN1.out hpd HRR.out.bal
            simp only [PT.mk.injEq] at hpe
            obtain ⟨rfl, rfl, rfl⟩ := hpe
            have hs1 : s = true := by
              rcases HN1.out with ⟨h, _⟩ | ⟨_, h, _⟩
              · exact h
              · cases h; simp at hpd
            subst hs1
            have hpa := (HN1.out.arg_ rfl).1
            have hsz := (HN1.out.arg_ rfl).2.1
            dsimp only [List.length_nil] at hsz
            have HPA := Hd.mk hpa
            have HEQ := Hd.mk heq
            have HBAL := Hd.mk hbal
            have HTK := Hd.mk (HK1.out m (by omega))
            have hm1 : m ≤ 4611686018427387903 := by have := HRR.out.hgk; omega
            have hpd' : (0 : Int) < m := by omega
            clear heq hbal hsz hpa hst
            go_wp2_with (at_builtin; refine append_lit' el_part #[.int .i64 0, .int .i64 (m : Int), .string ⟨#[]⟩] (HT2.out.alloc _).own rfl rfl rfl rfl (by simp) rfl (one3 rfl rfl rfl) HL1.out HL2.out (al_le HL3.out) ?_; intro v9 w9 hown9 hbel9 hgr9 hnew9; obtain ⟨A9, k9, rfl⟩ := own_form hown9; have HT9 := Hd.mk ((HT2.out.alloc _).add (p := ⟨0, m, []⟩) HTG.out rfl hown9 hbel9 hgr9); have hpb9 := (HPB.out.alloc _).only (Only.of_grown hgr9) (fun e => by have := hown0 _ e.symm; omega); have hqb9 := (Blk.new w8 113 #[.int .i64 qk, .int .i64 qd, .string ⟨qb.toArray⟩]).only (Only.of_grown hgr9) (fun e => by have := hown0 _ e.symm; omega); have P0 := hpb9.cell 0; have P1 := hpb9.cell 1; have P2 := hpb9.cell 2; have Q0 := hqb9.cell 0; have Q1 := hqb9.cell 1; have Q2 := hqb9.cell 2; simp only [List.getElem?_toArray, List.getElem?_cons_zero, List.getElem?_cons_succ] at P0 P1 P2 Q0 Q1 Q2; clear hown9 hbel9 hgr9 hnew9 hpb9 hqb9)
            refine (ttake_calls (m := m) HT9.out.bx rfl HAX.out hm1).mono ?_
            rintro e w10 ⟨rfl, rfl⟩
            go_wp2_with fail
            obtain ⟨g1, g2⟩ := HRR.out.step (i := m) (j := 0) (HT9.out.tkx HTG.out HTK.out) (snoc_arg HRR.out.arg HPA.out) HEQ.out HBAL.out (by omega) (Nat.zero_le _) (by omega) (by simp) HP1.out HP2.out HM1.out HM2.out
            go_roundg ((tape lx ax).length - m + ((tape ly ay).length - 0))
            case measure => exact g1
            case rel => exact ⟨_, _, _, _, _, _, _, _, _, g2⟩
          · by_cases hqb0 : qb = []
            · subst hqb0
              by_cases hpb0 : pb = []
              · subst hpb0
                obtain ⟨m, hm0, hmin, hmx, hmy, hbal, hq1, hq2⟩ := cm_s4 (out := out) HN1.out HN2.out rfl hpd rfl HRR.out.bal hst
                have hs1 : s = true := by
                  rcases HN1.out with ⟨h, _⟩ | ⟨_, h, _⟩
                  · exact h
                  · cases h; simp at hmin; omega
                have ht1 : t = true := by
                  rcases HN2.out with ⟨h, _⟩ | ⟨_, h, _⟩
                  · exact h
                  · cases h; simp at hmin; omega
                subst hs1 ht1
                obtain ⟨hpa, hsz1, hsx⟩ := HN1.out.arg_ rfl
                obtain ⟨hqa, hsz2, hsy⟩ := HN2.out.arg_ rfl
                obtain ⟨_, hk0, hd0⟩ := hpa
                obtain ⟨_, hk1, hd1⟩ := hqa
                dsimp only [List.length_nil] at hmin hsz1 hsz2 hk0 hd0 hk1 hd1 hq1 hq2
                have hgk := HRR.out.hgk
                have hb1 : pk ≤ 4000000 := by omega
                have hb3 : qk ≤ 4000000 := by omega
                have hb4 : qd ≤ 4000000 := by omega
                have HTK := Hd.mk (HK1.out m (by omega))
                have HTL := Hd.mk (HK2.out m (by omega))
                have HQ1 := Hd.mk hq1
                have HQ2 := Hd.mk hq2
                have HBAL := Hd.mk hbal
                have HMIN := Hd.mk hmin
                clear hq1 hq2 hbal hst hmin hsz1 hsz2 hsx hsy
                go_upto_region 13 with fail
                have e20 : (if qk + qd < pk then qk + qd else pk) = (m : Int) := by have := HMIN.out; split <;> omega
                have hm1 : m ≤ 4611686018427387903 := by omega
                have HMX := Hd.mk hmx
                have HMY := Hd.mk hmy
                rw [e20]
                clear e20
                by_cases hqk : 0 < qk
                · have HE := Hd.mk (HQ1.out hqk)
                  go_wp2_with (at_builtin; refine append_lit' el_part #[.int .i64 (m : Int), .int .i64 0, .string ⟨#[]⟩] (HT2.out.alloc _).own rfl rfl rfl rfl (by simp) rfl (one3 rfl rfl rfl) HL1.out HL2.out (al_le HL3.out) ?_; intro v9 w9 hown9 hbel9 hgr9 hnew9; obtain ⟨A9, k9, rfl⟩ := own_form hown9; have HT9 := Hd.mk ((HT2.out.alloc _).add (p := ⟨m, 0, []⟩) HTG.out rfl hown9 hbel9 hgr9); clear hown9 hbel9 hgr9 hnew9)
                  have HT10 := Hd.mk (HT9.out.tkx HTG.out HTK.out)
                  refine (ttake_calls (m := m) HT9.out.bx rfl HAX.out hm1).mono ?_
                  rintro e w10 ⟨rfl, rfl⟩
                  go_wp2_with fail
                  refine (ttake_calls (m := m) HT10.out.by_ rfl HAY.out hm1).mono ?_
                  rintro e w10 ⟨rfl, rfl⟩
                  go_wp2_with fail
                  obtain ⟨g1, g2⟩ := HRR.out.step (i := m) (j := m) (HT10.out.tky HTG.out HTL.out) (snoc_arg HRR.out.arg (PT.arg_keep (by omega))) HE.out HBAL.out HMX.out HMY.out (by omega) (by simp) HP1.out HP2.out HM1.out HM2.out
                  go_roundg ((tape lx ax).length - m + ((tape ly ay).length - m))
                  case measure => exact g1
                  case rel => exact ⟨_, _, _, _, _, _, _, _, _, g2⟩
                · have HE := Hd.mk (HQ2.out hqk)
                  go_wp2_with (at_builtin; refine append_lit' el_part #[.int .i64 0, .int .i64 (m : Int), .string ⟨#[]⟩] (HT2.out.alloc _).own rfl rfl rfl rfl (by simp) rfl (one3 rfl rfl rfl) HL1.out HL2.out (al_le HL3.out) ?_; intro v9 w9 hown9 hbel9 hgr9 hnew9; obtain ⟨A9, k9, rfl⟩ := own_form hown9; have HT9 := Hd.mk ((HT2.out.alloc _).add (p := ⟨0, m, []⟩) HTG.out rfl hown9 hbel9 hgr9); clear hown9 hbel9 hgr9 hnew9)
                  have HT10 := Hd.mk (HT9.out.tkx HTG.out HTK.out)
                  refine (ttake_calls (m := m) HT9.out.bx rfl HAX.out hm1).mono ?_
                  rintro e w10 ⟨rfl, rfl⟩
                  go_wp2_with fail
                  refine (ttake_calls (m := m) HT10.out.by_ rfl HAY.out hm1).mono ?_
                  rintro e w10 ⟨rfl, rfl⟩
                  go_wp2_with fail
                  obtain ⟨g1, g2⟩ := HRR.out.step (i := m) (j := m) (HT10.out.tky HTG.out HTL.out) (snoc_arg HRR.out.arg (PT.arg_drop (by omega))) HE.out HBAL.out HMX.out HMY.out (by omega) (by simp) HP1.out HP2.out HM1.out HM2.out
                  go_roundg ((tape lx ax).length - m + ((tape ly ay).length - m))
                  case measure => exact g1
                  case rel => exact ⟨_, _, _, _, _, _, _, _, _, g2⟩
              · have hpb' : (pb == []) = false := by rw [beq_eq_false_iff_ne]; exact hpb0
                obtain ⟨m, hm0, hmin, hmp, hmx, hmy, hbal, hq1, hq2⟩ := cm_s3 (out := out) HN1.out HN2.out hpb0 rfl HRR.out.bal
                have hs1 := (HN1.out.isPut_ hpb0).1
                have ht1 : t = true := by
                  rcases HN2.out with ⟨h, _⟩ | ⟨_, h, _⟩
                  · exact h
                  · cases h; simp at hmin; omega
                subst hs1 ht1
                obtain ⟨hpa, hsz1, hsx⟩ := HN1.out.arg_ rfl
                obtain ⟨hqa, hsz2, hsy⟩ := HN2.out.arg_ rfl
                obtain ⟨_, hk0, hd0⟩ := hpa
                obtain ⟨_, hk1, hd1⟩ := hqa
                dsimp only at hmin hmp hsz1 hsz2 hk0 hd0 hk1 hd1 hq1 hq2
                rw [List.length_nil] at hsz2
                have hgk := HRR.out.hgk
                have hb1 : pb.length ≤ 4000000 := by omega
                have hb3 : qk ≤ 4000000 := by omega
                have hb4 : qd ≤ 4000000 := by omega
                have HTK := Hd.mk (HK1.out m (by omega))
                have HTL := Hd.mk (HK2.out m (by omega))
                have HQ1 := Hd.mk hq1
                have HQ2 := Hd.mk hq2
                have HBAL := Hd.mk hbal
                have HMIN := Hd.mk hmin
                clear hq1 hq2 hbal hst hmin hsz1 hsz2 hsx hsy
                go_upto_region 28 with fail
                have e20 : (if qk + qd < (pb.length : Int) then qk + qd else (pb.length : Int)) = (m : Int) := by have := HMIN.out; split <;> omega
                have hm1 : m ≤ 4611686018427387903 := by omega
                have HMX := Hd.mk hmx
                have HMY := Hd.mk hmy
                rw [e20]
                clear e20
                by_cases hqk : 0 < qk
                · obtain ⟨hpa3, he3⟩ := HQ1.out hqk
                  have HE := Hd.mk he3
                  have HPA := Hd.mk hpa3
                  clear hpa3 he3
                  go_wp2_with (at_builtin; refine append_lit' el_part #[.int .i64 0, .int .i64 0, .string ⟨(pb.take m).toArray⟩] (HT2.out.alloc _).own rfl rfl rfl rfl (by simp) rfl (one3 rfl rfl rfl) HL1.out HL2.out (al_le HL3.out) ?_; intro v9 w9 hown9 hbel9 hgr9 hnew9; obtain ⟨A9, k9, rfl⟩ := own_form hown9; have HT9 := Hd.mk ((HT2.out.alloc _).add (p := ⟨0, 0, pb.take m⟩) HTG.out rfl hown9 hbel9 hgr9); clear hown9 hbel9 hgr9 hnew9)
                  have HT10 := Hd.mk (HT9.out.tkx HTG.out HTK.out)
                  refine (ttake_calls (m := m) HT9.out.bx rfl HAX.out hm1).mono ?_
                  rintro e w10 ⟨rfl, rfl⟩
                  go_wp2_with fail
                  refine (ttake_calls (m := m) HT10.out.by_ rfl HAY.out hm1).mono ?_
                  rintro e w10 ⟨rfl, rfl⟩
                  go_wp2_with fail
                  obtain ⟨g1, g2⟩ := HRR.out.step (i := m) (j := m) (HT10.out.tky HTG.out HTL.out) (snoc_arg HRR.out.arg HPA.out) HE.out HBAL.out HMX.out HMY.out (by omega) (by simp) HP1.out HP2.out HM1.out HM2.out
                  go_roundg ((tape lx ax).length - m + ((tape ly ay).length - m))
                  case measure => exact g1
                  case rel => exact ⟨_, _, _, _, _, _, _, _, _, g2⟩
                · have HE := Hd.mk (HQ2.out hqk)
                  have HT9 := Hd.mk (HT2.out.alloc (.cells #[.int .i64 qk, .int .i64 qd, .string ⟨#[]⟩] 113))
                  go_wp2_with fail
                  have HT10 := Hd.mk (HT9.out.tkx HTG.out HTK.out)
                  refine (ttake_calls (m := m) HT9.out.bx rfl HAX.out hm1).mono ?_
                  rintro e w10 ⟨rfl, rfl⟩
                  go_wp2_with fail
                  refine (ttake_calls (m := m) HT10.out.by_ rfl HAY.out hm1).mono ?_
                  rintro e w10 ⟨rfl, rfl⟩
                  go_wp2_with fail
                  obtain ⟨g1, g2⟩ := HRR.out.step (i := m) (j := m) (HT10.out.tky HTG.out HTL.out) HRR.out.arg HE.out HBAL.out HMX.out HMY.out (by omega) (by simp) HP1.out HP2.out HM1.out HM2.out
                  go_roundg ((tape lx ax).length - m + ((tape ly ay).length - m))
                  case measure => exact g1
                  case rel => exact ⟨_, _, _, _, _, _, _, _, _, g2⟩
            · have hqb' : (qb == []) = false := by rw [beq_eq_false_iff_ne]; exact hqb0
              obtain ⟨hpa, heq, hbal, hle⟩ := cm_s2 (out := out) HN1.out HN2.out hpd hqb0 HRR.out.bal
              have ht1 := (HN2.out.isPut_ hqb0).1
              subst ht1
              have HPA := Hd.mk hpa
              have HEQ := Hd.mk heq
              have HBAL := Hd.mk hbal
              have hsz := (HN2.out.arg_ rfl).2.1
              obtain ⟨_, hk0, hd0⟩ := hpa
              dsimp only at hle hsz hk0 hd0
              have hql := List.length_pos_iff.2 hqb0
              have HTK := Hd.mk (HK2.out qb.length (by omega))
              have hql2 : qb.length ≤ 4611686018427387903 := by have := HRR.out.hgk; omega
              clear heq hbal hsz hst
              cases s
              all_goals
                go_wp2_with (at_builtin; refine append_lit' el_part #[.int .i64 qk, .int .i64 qd, .string ⟨qb.toArray⟩] (HT2.out.alloc _).own rfl rfl rfl rfl (by simp) rfl (one3 rfl rfl rfl) HL1.out HL2.out (al_le HL3.out) ?_; intro v9 w9 hown9 hbel9 hgr9 hnew9; obtain ⟨A9, k9, rfl⟩ := own_form hown9; have HT9 := Hd.mk ((HT2.out.alloc _).add (p := ⟨qk, qd, qb⟩) HTG.out rfl hown9 hbel9 hgr9); have hpb9 := (HPB.out.alloc _).only (Only.of_grown hgr9) (fun e => by have := hown0 _ e.symm; omega); have hqb9 := (Blk.new w8 113 #[.int .i64 qk, .int .i64 qd, .string ⟨qb.toArray⟩]).only (Only.of_grown hgr9) (fun e => by have := hown0 _ e.symm; omega); have P0 := hpb9.cell 0; have P1 := hpb9.cell 1; have P2 := hpb9.cell 2; have Q0 := hqb9.cell 0; have Q1 := hqb9.cell 1; have Q2 := hqb9.cell 2; simp only [List.getElem?_toArray, List.getElem?_cons_zero, List.getElem?_cons_succ] at P0 P1 P2 Q0 Q1 Q2; clear hown9 hbel9 hgr9 hnew9 hpb9 hqb9)
                refine (ttake_calls (m := qb.length) HT9.out.by_ rfl HAY.out hql2).mono ?_
                rintro e w10 ⟨rfl, rfl⟩
                go_wp2_with fail
                obtain ⟨g1, g2⟩ := HRR.out.step (i := 0) (j := qb.length) (HT9.out.tky HTG.out HTK.out) (snoc_arg HRR.out.arg HPA.out) HEQ.out HBAL.out (Nat.zero_le _) (by omega) (by omega) (by simp) HP1.out HP2.out HM1.out HM2.out
                go_roundg ((tape lx ax).length - 0 + ((tape ly ay).length - qb.length))
                case measure => exact g1
                case rel => exact ⟨_, _, _, _, _, _, _, _, _, g2⟩
        · have hs0 : s = false := Bool.eq_false_iff.2 (fun e => hst (.inl e))
          have ht0 : t = false := Bool.eq_false_iff.2 (fun e => hst (.inr e))
          subst hs0 ht0
          have hnil : tape lx ax = [] ∧ tape ly ay = [] := by
            refine ⟨?_, ?_⟩
            · rcases HN1.out with ⟨h, _⟩ | ⟨_, _, h⟩
              · exact absurd h (by decide)
              · exact h
            · rcases HN2.out with ⟨h, _⟩ | ⟨_, _, h⟩
              · exact absurd h (by decide)
              · exact h
          have HU : Hd (expand out = U) := ⟨by have := HRR.out.eq; rw [hnil.1, hnil.2, cm] at this; simpa using this⟩
          have HM : Hd (was out ≤ 4000000 ∧ plen out ≤ 4000000) := ⟨by
            obtain ⟨_, _, e3⟩ := expand_meas HRR.out.arg
            have h1 := HUL.out
            have h2 := was_nn HRR.out.arg
            rw [HU.out] at e3
            omega⟩
          clear hst hnil
          go_wp2_with fail
          refine (norm_new (Sl.of_own (HT2.out.alloc _).own) HRR.out.arg (by have := HM.out; omega) (by have := HM.out; omega) (by omega)).mono ?_
          rintro e w9 ⟨⟨⟨v9, rfl, hs9⟩, hb9⟩, hf9⟩
          have HS9 := Hd.mk hs9
          have HF9 : Hd (Frs w.heap.size v9) := ⟨(hf9 _ rfl).mono (by have h1 := HB7.out.size; have h2 := HT2.out.only.size; simp only [World.size_alloc]; omega)⟩
          clear hf9
          obtain ⟨A9, c9, rfl, -⟩ := hs9
          have HB9 : Hd (Below w.heap.size w w9) := ⟨bstep (ex_alloc (HB7.out.trans (HT2.out.only.below HB7.out.size (fun k hk => by rintro (e | e) <;> omega))) _) hb9⟩
          clear hb9
          have HFI : Hd (norm out = urun U) := ⟨by rw [norm_urun HRR.out.arg, HU.out]⟩
          go_wp2_with fail
          go_ret2
          exact ⟨⟨HB9.out, .slice A9 (norm out).length c9, by rw [HTC.out]; rfl, fun _ => by rw [← HFI.out]; exact HS9.out, fun h => absurd HTC.out h⟩, frE HF9.out⟩
    · have HTC : Hd (cmc la lb = 2) := ⟨by unfold cmc; rw [if_pos H0.out, if_neg hw]⟩
      have hw' : (was lb == comes la) = false := by rw [beq_eq_false_iff_ne]; exact fun e => hw e.symm
      clear hw
      go_wp2_with fail
      go_ret2
      exact ⟨⟨HB3.out, .slice none 0 0, by rw [HTC.out]; rfl, fun h => by rw [HTC.out] at h; exact absurd h (by decide), fun _ => rfl⟩, frE (Frs.nil _)⟩
  · have HTC : Hd (cmc la lb = chk2 la lb) := ⟨by unfold cmc; rw [if_neg h0]⟩
    rw [errOf_ne h0]
    have H0 := Hd.mk h0
    clear h0
    generalize chk2 la lb = z at *
    go_wp2_with fail
    go_ret2
    exact ⟨⟨HB1.out, .slice none 0 0, by rw [HTC.out, errOf_ne H0.out] <;> rfl, fun h => by rw [HTC.out] at h; exact absurd h H0.out, fun _ => rfl⟩, frE (Frs.nil _)⟩
theorem ocomp_mo {la lb : List PT} {va vb : Value} {na nb : Nat} {w : World} (hg : Hdl w) (ha : Sl w 3 va na (opv la)) (hb : Sl w 3 vb nb (opv lb)) (hfa : Mo la na) (hfb : Mo lb nb) :
    Calls Tryz.prog 77 #[va, vb] w (TrRes (cmc la lb) (cm (expand la) (expand lb)) w) := (ocomp_new hg ha hb hfa hfb).mono fun _ _ h => h.1
theorem ocomp_calls {la lb : List PT} {va vb : Value} {na nb : Nat} {w : World} (hg : Hdl w) (ha : Sl w 3 va na (opv la)) (hb : Sl w 3 vb nb (opv lb)) (hfa : Few la) (hfb : Few lb) (hna : na ≤ 100) (hnb : nb ≤ 100) :
    Calls Tryz.prog 77 #[va, vb] w (TrRes (cmc la lb) (cm (expand la) (expand lb)) w) :=
  ocomp_mo hg ha hb (hfa.mo (by have := ha.len; rw [opv_length] at this; omega) hna) (hfb.mo (by have := hb.len; rw [opv_length] at this; omega) hnb)
end
end Go.Proofs.YtdgdajnbkfmijaaGreatDoor
