/- Several texts of the proof, one behind the other: SrvN, RoomA, RoomC, RoomD, RoomE, RoomF, RoomG. -/
import Derived.Test.YtdgdajnbkfmijaaGreatDoorMRoomMeets45
import Derived.Test.YtdgdajnbkfmijaaGreatDoorMRoomMeets39
import Derived.Deep.DeepCutAuto
import Derived.Test.YtdgdajnbkfmijaaGreatDoorMRoomMeets40
import Derived.Deep.RegionHeld3
/- A new server. -/
namespace Go.Proofs.YtdgdajnbkfmijaaGreatDoor
open Go.RowKit Go.Sort
set_option maxRecDepth 100000
def SNewPost (rs : List Int) (rest : U.Bs) (w : World) (e : Ending) (w' : World) : Prop :=
  Below w.heap.size w w' ∧ (rest ≠ [] → ∃ g, e = .returned (.tuple #[.pointer none, atV g]) ∧ AtBlk w' g 3 (bl rs)) ∧
    (rest = [] → 2000 < bl rs → e = .returned (.tuple #[.pointer none, errno 12])) ∧
    (rest = [] → bl rs ≤ 2000 → ∃ s : SP, e = .returned (.tuple #[.pointer (some ⟨s.a, 0, none⟩), .nilIface]) ∧ (∀ j, s.F j → w.heap.size ≤ j) ∧ w.heap.size ≤ s.p ∧ SrvR w' s.F s (SV.new (U.encs rs)))
set_option maxHeartbeats 4000000 in
theorem snew_calls {s : U.Bs} {rs : List Int} {rest : U.Bs} (hsp : U.Sp s rs rest) (hs : s.length ≤ 1000000) (w : World) :
    Calls Tryz.prog 7 #[.string ⟨s.toArray⟩] w (SNewPost rs rest w) := by
  have HC := Hd.mk (count_calls hsp w (by omega))
  have HALL := Hd.mk hsp.all
  have hmm := @run_makeMap Tryz.prog
  have hoff : U.off rs rs.length = bl rs := U.off_full rs
  have HOF := Hd.mk hoff
  by_cases hr : rest = []
  · subst hr
    obtain rfl : s = U.encs rs := by have := hsp.eq; simpa using this
    have hlen : (U.encs rs).length = bl rs := rfl
    have HLEN := Hd.mk hlen
    have HN := fun W => Hd.mk (new_calls hsp W hs)
    by_cases hbl : 2000 < bl rs
    · have hi : (2000 : Int) < ((U.encs rs).length : Int) := by show (2000 : Int) < (bl rs : Int); omega
      have HBL := Hd.mk hbl
      clear hsp hoff hlen hbl hs
      go_enter Tryz.func7, Tryz.ntmps7
      go_wp2_with (go_at_call 21; refine HC.out.mono ?_; rintro e w1 ⟨hb1, hok, -⟩; obtain rfl := hok rfl; have HB1 := Hd.mk hb1; clear hb1 hok)
      go_ret2
      exact ⟨ex_alloc HB1.out _, fun h => absurd rfl h, fun _ _ => rfl, fun _ h => absurd HBL.out (by omega)⟩
    · have hi : ¬ ((2000 : Int) < ((U.encs rs).length : Int)) := by show ¬ ((2000 : Int) < (bl rs : Int)); omega
      have HBL : Hd (bl rs ≤ 2000) := ⟨by omega⟩
      clear hsp hoff hlen hbl hs
      go_enter Tryz.func7, Tryz.ntmps7
      go_wp2_with (first
        | (go_at_call 21; refine HC.out.mono ?_; rintro e w1 ⟨hb1, hok, -⟩; obtain rfl := hok rfl; have HB1 := Hd.mk (ex_alloc hb1 (.cells #[.int .i64 (cnt rs).b, .int .i64 (cnt rs).h, .int .i64 (cnt rs).r, .int .i64 (cnt rs).l] 63)); clear hb1 hok)
        | (go_at_call 48; refine (HN _).out.mono ?_; rintro e w5 ⟨hb5, -, -, h5⟩; obtain ⟨p5, t5, rfl, hat5, hg5, hr5, hp5, ht5⟩ := h5 rfl (by have := HBL.out; omega); have HB5 := Hd.mk (bstep HB1.out hb5); have HAT5 := Hd.mk hat5; have HG5 := Hd.mk hg5; have HE5 := Hd.mk hr5; have HP5 := Hd.mk (And.intro (Nat.le_trans HB1.out.size hp5) (fun i hi => Nat.le_trans HB1.out.size (ht5 i hi))); clear hb5 h5 hat5 hg5 hr5 hp5 ht5))
      go_ret2
      have hz5 := HB5.out.size
      have hx : Below w5.heap.size w5 ((w5.alloc (.map #[] 0)).alloc (.cells #[.pointer (some ⟨p5, 0, none⟩), .slice none 0 0, .map (some w5.heap.size)] 106)) := ex_alloc (ex_alloc (Below.refl _ _) _) _
      have hlp := HAT5.out.blk.lt
      have hF : ∀ j, (SP.mk (w5.heap.size + 1) p5 t5 (.slice none 0 0) w5.heap.size 0 []).F j → j = w5.heap.size ∨ j = w5.heap.size + 1 := by
        rintro j (e | e | e)
        · exact .inr e
        · cases e
        · exact .inl e
      refine ⟨HB5.out.trans (hx.mono hz5), fun h => absurd rfl h, fun _ h => absurd h (by have := HBL.out; omega), fun _ _ => ⟨⟨w5.heap.size + 1, p5, t5, .slice none 0 0, w5.heap.size, 0, []⟩, ?_, fun j hj => by rcases hF j hj with e | e <;> omega, HP5.out.1, ?_⟩⟩
      · simp
      · refine ⟨SVok.new HALL.out HBL.out, ?_, HAT5.out.below hx, HG5.out, by rw [HE5.out]; rfl, ⟨fun e => by rcases hF _ e with e | e <;> (dsimp only at e; omega), fun b hb e => by have := HAT5.out.tree.lt b hb; rcases hF _ e with e | e <;> omega⟩, World.ownsRow_nil _ _ _ _, rfl, fun x hx => by simp at hx, ?_, Nat.le_refl _, fun _ h => h, fun j hj => ?_⟩
        · have := Blk.new (w5.alloc (.map #[] 0)) 106 #[.pointer (some ⟨p5, 0, none⟩), .slice none 0 0, .map (some w5.heap.size)]
          rw [World.size_alloc] at this
          exact this
        · exact (Mp.new w5).below (ex_alloc (Below.refl _ _) _)
        · rcases hF j hj with e | e <;> (simp; omega)
  · have HRR := Hd.mk hr
    clear hsp hoff hs hr
    go_enter Tryz.func7, Tryz.ntmps7
    go_wp2_with (go_at_call 21; refine HC.out.mono ?_; rintro e w1 ⟨hb1, -, hok⟩; obtain ⟨g, rfl, hg⟩ := hok HRR.out; have HB1 := Hd.mk hb1; have HG := Hd.mk hg; clear hb1 hok hg)
    go_ret2
    refine ⟨ex_alloc HB1.out _, fun _ => ⟨g, rfl, ?_⟩, fun h => absurd h HRR.out, fun h => absurd h HRR.out⟩
    rw [← HOF.out]
    exact HG.out.below (ex_alloc (Below.refl _ _) _)
end Go.Proofs.YtdgdajnbkfmijaaGreatDoor
/- A room in memory: what it is, and that it stays so. -/
namespace Go.Proofs.YtdgdajnbkfmijaaGreatDoor
open Go.RowKit Go.Sort
set_option maxRecDepth 100000
/-- A packet's cells. -/
def pcv (x : PK × Value) : List Value := [.int .i64 x.1.kind, .int .i64 (x.1.k : Int), .int .i64 x.1.rev, .int .i64 x.1.id, .int .i64 x.1.en.who, .int .i64 x.1.en.id, x.2]
def pks (L : List (PK × Value)) : List Value := L.flatMap pcv
theorem pks_cons (x : PK × Value) (L : List (PK × Value)) : pks (x :: L) = pcv x ++ pks L := by simp [pks]
theorem pks_append (a b : List (PK × Value)) : pks (a ++ b) = pks a ++ pks b := by unfold pks; rw [List.flatMap_append]
theorem pks_one (x : PK × Value) : pks [x] = pcv x := by simp [pks]
theorem pks_at {L : List (PK × Value)} {k j : Nat} (hk : k < L.length) (hj : j < 7) : (pks L)[k * 7 + j]? = (pcv L[k])[j]? := by
  induction L generalizing k with
  | nil => simp at hk
  | cons x L ih =>
    have hl : (pcv x).length = 7 := rfl
    rw [pks_cons]
    cases k with
    | zero => rw [Nat.zero_mul, Nat.zero_add, List.getElem?_append_left (by omega)]; rfl
    | succ k =>
      rw [List.getElem?_append_right (by omega), hl, show (k + 1) * 7 + j - 7 = k * 7 + j from by omega, ih (by simpa using hk)]
      rfl
theorem pks_drop (L : List (PK × Value)) (k : Nat) : pks (L.drop k) = (pks L).drop (k * 7) := by
  induction L generalizing k with
  | nil => simp [pks]
  | cons x L ih =>
    cases k with
    | zero => simp
    | succ k =>
      have hl : (pcv x).length = 7 := rfl
      rw [List.drop_succ_cons, ih, pks_cons, show (k + 1) * 7 = (pcv x).length + k * 7 from by omega, List.drop_append]
      simp
theorem pks_take (L : List (PK × Value)) (k : Nat) : pks (L.take k) = (pks L).take (k * 7) := by
  induction L generalizing k with
  | nil => simp [pks]
  | cons x L ih =>
    cases k with
    | zero => simp [pks]
    | succ k =>
      have hl : (pcv x).length = 7 := rfl
      rw [List.take_succ_cons, pks_cons, ih, pks_cons, show (k + 1) * 7 = (pcv x).length + k * 7 from by omega, List.take_length_add_append]
/-- Element k, its seven cells. -/
theorem Sl.pk {w : World} {L : List (PK × Value)} {v : Value} {n : Nat} (h : Sl w 7 v n (pks L)) {k : Nat} (hk : k < n) (hl : k < L.length) : ∃ b o c, v = .slice (some ⟨b, o, none⟩) n c ∧ b < w.heap.size ∧
    w.cell? ⟨b, o + k * 7, none⟩ = some (.int .i64 L[k].1.kind) ∧ w.cell? ⟨b, o + k * 7 + 1, none⟩ = some (.int .i64 (L[k].1.k : Int)) ∧ w.cell? ⟨b, o + k * 7 + 2, none⟩ = some (.int .i64 L[k].1.rev) ∧ w.cell? ⟨b, o + k * 7 + 3, none⟩ = some (.int .i64 L[k].1.id) ∧
    w.cell? ⟨b, o + k * 7 + 4, none⟩ = some (.int .i64 L[k].1.en.who) ∧ w.cell? ⟨b, o + k * 7 + 5, none⟩ = some (.int .i64 L[k].1.en.id) ∧ w.cell? ⟨b, o + k * 7 + 6, none⟩ = some L[k].2 := by
  obtain ⟨A, c, rfl, h2, _, _, _, h5⟩ := h
  obtain ⟨ad, rfl, hb, hc⟩ := h5 (by omega)
  have z := fun j (hj : j < 7) u (hu : (pcv L[k])[j]? = some u) => hc _ u ((pks_at hl hj).trans hu)
  have c0 := z 0 (by decide) _ rfl
  have c1 := z 1 (by decide) _ rfl
  have c2 := z 2 (by decide) _ rfl
  have c3 := z 3 (by decide) _ rfl
  have c4 := z 4 (by decide) _ rfl
  have c5 := z 5 (by decide) _ rfl
  have c6 := z 6 (by decide) _ rfl
  obtain ⟨b, o, p⟩ := ad
  have hp : p = none := by
    cases p with
    | none => rfl
    | some x =>
      have hl0 : 0 < L.length := by omega
      have hz := hc _ _ ((pks_at hl0 (j := 0) (by decide)).trans rfl)
      have : (⟨b, o, some x⟩ : Addr).add (0 * 7 + 0) = ⟨b, o, some x⟩ := by unfold Addr.add; rfl
      rw [this] at hz
      unfold World.cell? at hz
      split at hz <;> simp at hz
  subst hp
  simp only [add_mk] at c0 c1 c2 c3 c4 c5 c6
  exact ⟨b, o, c, rfl, hb, c0, by rw [← c1, Nat.add_assoc], by rw [← c2, Nat.add_assoc], by rw [← c3, Nat.add_assoc], by rw [← c4, Nat.add_assoc], by rw [← c5, Nat.add_assoc], by rw [← c6, Nat.add_assoc]⟩
/-- Of which type a block's cells are. -/
def tyOf (w : World) (j : Nat) : Option TypeId := match w.heap[j]? with | some (.cells _ t _) => some t | _ => none
theorem Blk.tyo {w : World} {g : Nat} {t : TypeId} {cs : Array Value} (h : Blk w g t cs) : tyOf w g = some t := by unfold tyOf; unfold Blk at h; rw [h]
theorem own_ty {w : World} {base : Nat} {e : TypeId} {size n : Nat} {v : Value} {xs : List Value} {k : Nat} (h : w.ownsRow base e size v n xs) (hk : v.ownBlock = some k) : tyOf w k = some e := by
  rcases h.2 with ⟨e, -⟩ | ⟨g, cap, cur, e, -, hg, -⟩
  · rw [e] at hk; cases hk
  · rw [e] at hk
    cases hk
    unfold tyOf
    rw [hg]
theorem SrvR.ty {w : World} {F : Nat → Prop} {s : SP} {S : SV} (h : SrvR w F s S) {j : Nat} (hj : s.F j) : tyOf w j = some 106 ∨ tyOf w j = some 120 ∨ tyOf w j = none := by
  rcases hj with rfl | e | rfl
  · exact .inl h.blk.tyo
  · exact .inr (.inl (own_ty h.own e))
  · obtain ⟨es, clock, hm⟩ := h.map.cap
    refine .inr (.inr ?_)
    unfold tyOf
    rw [hm]
theorem CliR.ty {w : World} {F : Nat → Prop} {c : CP} {C : CV} (h : CliR w F c C) : tyOf w c.a = some 139 ∧ tyOf w c.f = some 196 := by
  obtain ⟨t, vh, vr, hb, -⟩ := h.sh.ex
  exact ⟨h.blk.tyo, hb.tyo⟩
/-- Where a room lies. -/
structure RP where
  a : Nat
  s : SP
  vc : Value
  cs : List CP
  vw : Value
  L : List (PK × Value)
def RP.F (r : RP) (j : Nat) : Prop := j = r.a ∨ r.s.F j ∨ (∃ (k : Nat) (c : CP), r.cs[k]? = some c ∧ c.F j) ∨ r.vw.ownBlock = some j
def ptrs (cs : List CP) : List Value := cs.map fun c => .pointer (some ⟨c.a, 0, none⟩)
def RP.cells (r : RP) (lost : Int) : Array Value := #[.pointer (some ⟨r.s.a, 0, none⟩), r.vc, r.vw, .int .i64 lost]
/-- A room in memory; F: all that may turn, of it and of others. -/
structure RmR (w : World) (F : Nat → Prop) (r : RP) (R : RM) : Prop where
  hd : HdlO F w
  blk : Blk w r.a 132 (r.cells R.lost)
  srv : SrvR w F r.s R.srv
  len : r.cs.length = R.cl.length
  cli : ∀ (k : Nat) (c : CP) (C : CV), r.cs[k]? = some c → R.cl[k]? = some C → CliR w F c C
  vcs : Sl w 1 r.vc r.cs.length (ptrs r.cs)
  vco : Out F r.vc
  own : w.ownsRow 0 158 7 r.vw r.L.length (pks r.L)
  way : r.L.map Prod.fst = R.way
  ops : ∀ x ∈ r.L, OpO F w x.2 x.1.en.op
  ap : ∀ (i j : Nat) (c c' : CP), i ≠ j → r.cs[i]? = some c → r.cs[j]? = some c' → c.a ≠ c'.a ∧ c.f ≠ c'.f
  sub : ∀ j, r.F j → F j
  flt : ∀ j, F j → j < w.heap.size
section
variable {F F' G : Nat → Prop} {w w' w1 w2 : World} {r r1 r' : RP} {R R1 R' : RM}
theorem RmR.get (h : RmR w F r R) {k : Nat} {C : CV} (hC : R.cl[k]? = some C) : ∃ c, r.cs[k]? = some c ∧ CliR w F c C := by
  have hl := (List.getElem?_eq_some_iff.1 hC).1
  have hc : r.cs[k]? = some (r.cs[k]'(by rw [h.len]; exact hl)) := List.getElem?_eq_getElem _
  exact ⟨_, hc, h.cli _ _ _ hc hC⟩
theorem RmR.wl (h : RmR w F r R) : r.L.length = R.way.length := by rw [← h.way, List.length_map]
theorem RmR.lt (h : RmR w F r R) : ∀ j, r.F j → j < w.heap.size := fun j hj => h.flt j (h.sub j hj)
theorem RmR.cty (h : RmR w F r R) {k : Nat} {c : CP} (hc : r.cs[k]? = some c) : ∃ C, R.cl[k]? = some C ∧ CliR w F c C := by
  have hl := (List.getElem?_eq_some_iff.1 hc).1
  have hC : R.cl[k]? = some (R.cl[k]'(by rw [← h.len]; exact hl)) := List.getElem?_eq_getElem _
  exact ⟨_, hC, h.cli _ _ _ hc hC⟩
/-- Its parts lie apart. -/
theorem RmR.a_s (h : RmR w F r R) {j : Nat} (hj : r.s.F j) : j ≠ r.a := fun e => by
  subst e
  have h1 := h.blk.tyo
  rcases h.srv.ty hj with h2 | h2 | h2 <;> rw [h1] at h2 <;> exact absurd h2 (by decide)
theorem RmR.a_c (h : RmR w F r R) {k : Nat} {c : CP} (hc : r.cs[k]? = some c) {j : Nat} (hj : c.F j) : j ≠ r.a := fun e => by
  subst e
  have h1 := h.blk.tyo
  obtain ⟨C, -, hC⟩ := h.cty hc
  obtain ⟨t1, t2⟩ := hC.ty
  rcases hj with e | e
  · rw [← e, h1] at t1; exact absurd t1 (by decide)
  · rw [← e, h1] at t2; exact absurd t2 (by decide)
theorem RmR.a_w (h : RmR w F r R) : r.vw.ownBlock ≠ some r.a := fun e => by
  have h1 := own_ty h.own e
  rw [h.blk.tyo] at h1
  exact absurd h1 (by decide)
theorem RmR.s_c (h : RmR w F r R) {k : Nat} {c : CP} (hc : r.cs[k]? = some c) {j : Nat} (hj : c.F j) : ¬ r.s.F j := fun e => by
  obtain ⟨C, -, hC⟩ := h.cty hc
  obtain ⟨t1, t2⟩ := hC.ty
  rcases hj with e1 | e1 <;> rcases h.srv.ty e with h2 | h2 | h2
  all_goals first | (rw [e1, t1] at h2; exact absurd h2 (by decide)) | (rw [e1, t2] at h2; exact absurd h2 (by decide))
theorem RmR.s_w (h : RmR w F r R) {j : Nat} (hj : r.s.F j) : r.vw.ownBlock ≠ some j := fun e => by
  have h1 := own_ty h.own e
  rcases h.srv.ty hj with h2 | h2 | h2 <;> rw [h1] at h2 <;> exact absurd h2 (by decide)
theorem RmR.c_w (h : RmR w F r R) {k : Nat} {c : CP} (hc : r.cs[k]? = some c) {j : Nat} (hj : c.F j) : r.vw.ownBlock ≠ some j := fun e => by
  have h1 := own_ty h.own e
  obtain ⟨C, -, hC⟩ := h.cty hc
  obtain ⟨t1, t2⟩ := hC.ty
  rcases hj with e1 | e1
  · rw [e1, t1] at h1; exact absurd h1 (by decide)
  · rw [e1, t2] at h1; exact absurd h1 (by decide)
theorem RmR.c_c (h : RmR w F r R) {i k : Nat} (hik : i ≠ k) {c c' : CP} (hi : r.cs[i]? = some c) (hc : r.cs[k]? = some c') {j : Nat} (hj : c.F j) : ¬ c'.F j := fun e => by
  obtain ⟨C, -, hC⟩ := h.cty hi
  obtain ⟨C', -, hC'⟩ := h.cty hc
  obtain ⟨t1, t2⟩ := hC.ty
  obtain ⟨u1, u2⟩ := hC'.ty
  obtain ⟨a1, a2⟩ := h.ap i k c c' hik hi hc
  rcases hj with e1 | e1 <;> rcases e with e2 | e2
  · exact a1 (e1.symm.trans e2)
  · rw [← e1, e2, u2] at t1; exact absurd t1 (by decide)
  · rw [← e1, e2, u1] at t2; exact absurd t2 (by decide)
  · exact a2 (e1.symm.trans e2)
/-- It stays what it is while other things turn. -/
theorem RmR.only (h : RmR w F r R) (ho : Only G w w') (hG : ∀ j, G j → F j) (hs : ∀ j, r.F j → ¬ G j) (hF : Grow F F' w.heap.size) (hs' : ∀ j, r.F j → F' j) (hl : ∀ j, F' j → j < w'.heap.size) : RmR w' F' r R :=
  ⟨h.hd.only (ho.mono fun j _ => hG j) hF, h.blk.only ho (hs _ (.inl rfl)), h.srv.only ho hG (fun j hj => hs j (.inr (.inl hj))) hF (fun j hj => hs' j (.inr (.inl hj))) hl, h.len,
    fun k c C hc hC => (h.cli k c C hc hC).only ho hG (fun j hj => hs j (.inr (.inr (.inl ⟨k, c, hc, hj⟩)))) hF (fun j hj => hs' j (.inr (.inr (.inl ⟨k, c, hc, hj⟩)))) hl,
    h.vcs.out (h.vco.sub hG) ho, h.vco.grow h.vcs hF, own_only h.own ho (fun j hj => hs j (.inr (.inr (.inr hj)))), h.way, fun x hx => (h.ops x hx).only (ho.mono fun j _ => hG j) hF, h.ap, hs', hl⟩
theorem RmR.below (h : RmR w F r R) (hb : Below w.heap.size w w') : RmR w' F r R := h.only (G := fun _ => False) (Only.of_below hb) (fun _ e => e.elim) (fun _ _ e => e) (Grow.refl _ _) h.sub (fun j hj => Nat.lt_of_lt_of_le (h.flt j hj) hb.size)
/-- What a step of a room leaves. -/
def RmS (F : Nat → Prop) (r : RP) (R' : RM) (w w' : World) : Prop :=
  ∃ r' : RP, (r'.a = r.a ∧ r'.s.a = r.s.a) ∧ r'.cs.map CP.a = r.cs.map CP.a ∧ Only r.F w w' ∧ Grow r.F r'.F w.heap.size ∧ ∀ F', (∀ j, F' j → F j ∨ r'.F j) → (∀ j, r'.F j → F' j) → RmR w' F' r' R'
theorem RmS.of_below (h : RmR w F r R) (hb : Below w.heap.size w w') : RmS F r R w w' :=
  ⟨r, ⟨rfl, rfl⟩, rfl, Only.of_below hb, Grow.refl _ _, fun _F' h1 h2 => h.only (G := fun _ => False) (Only.of_below hb) (fun _ e => e.elim) (fun _ _ e => e) (fun j hj => .inl ((h1 j hj).elim id (h.sub j))) h2 (fun j hj => Nat.lt_of_lt_of_le (h.flt j ((h1 j hj).elim id (h.sub j))) hb.size)⟩
/-- One step and then another one. -/
theorem RmS.trans (h : RmS F r R1 w w1) (k : ∀ r1 F1, (r1.a = r.a ∧ r1.s.a = r.s.a) → r1.cs.map CP.a = r.cs.map CP.a → RmR w1 F1 r1 R1 → RmS F1 r1 R' w1 w2) : RmS F r R' w w2 := by
  obtain ⟨r1, a1, a2, a3, a4, a5⟩ := h
  obtain ⟨r2, b1, b2, b3, b4, b5⟩ := k r1 (fun j => F j ∨ r1.F j) a1 a2 (a5 _ (fun _ e => e) (fun _ e => .inr e))
  refine ⟨r2, ⟨b1.1.trans a1.1, b1.2.trans a1.2⟩, b2.trans a2, a3.step b3 (fun i hi hj => (a4 i hj).elim id (fun e => by omega)), a4.trans b4 a3.size, fun F' h1 h2 => b5 F' (fun j hj => (h1 j hj).elim (fun e => .inl (.inl e)) .inr) h2⟩
theorem RmS.then_below (h : RmS F r R' w w1) (hb : Below w1.heap.size w1 w2) : RmS F r R' w w2 := h.trans (fun _ _ _ _ h1 => RmS.of_below h1 hb)
theorem RmS.from_below (_hR : RmR w F r R) (hb : Below w.heap.size w w1) (h : RmS F r R' w1 w2) : RmS F r R' w w2 := by
  obtain ⟨r1, a1, a2, a3, a4, a5⟩ := h
  exact ⟨r1, a1, a2, (Only.of_below hb).trans a3, a4.mono hb.size, a5⟩
/-- Behind a step there is a room. -/
theorem RmS.get (h : RmS F r R' w w1) : ∃ r1 F1, (r1.a = r.a ∧ r1.s.a = r.s.a) ∧ r1.cs.map CP.a = r.cs.map CP.a ∧ RmR w1 F1 r1 R' ∧ Only r.F w w1 ∧ Grow r.F r1.F w.heap.size ∧ F1 = fun j => F j ∨ r1.F j := by
  obtain ⟨r1, a1, a2, a3, a4, a5⟩ := h
  exact ⟨r1, _, a1, a2, a5 _ (fun _ e => e) (fun _ e => .inr e), a3, a4, rfl⟩
/-- Behind a step there is a room; and what a further step leaves is what both leave. -/
theorem RmS.next' (hR : RmR w F r R) (h : RmS F r R' w w1) : ∃ r1 F1, (r1.a = r.a ∧ r1.s.a = r.s.a) ∧ r1.cs.map CP.a = r.cs.map CP.a ∧ RmR w1 F1 r1 R' ∧ Only r.F w w1 ∧ Only F w w1 ∧ Grow F F1 w.heap.size ∧ Grow r.F r1.F w.heap.size ∧ ∀ R2 w2, RmS F1 r1 R2 w1 w2 → RmS F r R2 w w2 := by
  have h0 := h
  obtain ⟨r1, a1, a2, a3, a4, a5⟩ := h
  refine ⟨r1, fun j => F j ∨ r1.F j, a1, a2, a5 _ (fun _ e => e) (fun _ e => .inr e), a3, a3.mono (fun j _ hj => hR.sub j hj), fun j hj => hj.elim .inl (fun e => (a4 j e).imp_left (hR.sub j)), a4, fun R2 w2 k => ?_⟩
  obtain ⟨r2, b1, b2, b3, b4, b5⟩ := k
  exact ⟨r2, ⟨b1.1.trans a1.1, b1.2.trans a1.2⟩, b2.trans a2, a3.step b3 (fun i hi hj => (a4 i hj).elim id (fun e => by omega)), a4.trans b4 a3.size, fun F' h1 h2 => b5 F' (fun j hj => (h1 j hj).elim (fun e => .inl (.inl e)) .inr) h2⟩
theorem RmS.next (hR : RmR w F r R) (h : RmS F r R' w w1) : ∃ r1 F1, (r1.a = r.a ∧ r1.s.a = r.s.a) ∧ r1.cs.map CP.a = r.cs.map CP.a ∧ RmR w1 F1 r1 R' ∧ Only r.F w w1 ∧ Only F w w1 ∧ Grow F F1 w.heap.size ∧ ∀ R2 w2, RmS F1 r1 R2 w1 w2 → RmS F r R2 w w2 := by
  obtain ⟨r1, F1, a1, a2, a3, a4, a5, a6, -, a8⟩ := RmS.next' hR h
  exact ⟨r1, F1, a1, a2, a3, a4, a5, a6, a8⟩
/-- Its server took something. -/
theorem RmR.served (h : RmR w F r R) {x : Int × SV} {e : Ending} (hp : DoesP F r.s x w e w') : e = .returned (errOf x.1) ∧ RmS F r { R with srv := x.2 } w w' := by
  obtain ⟨s', ha, hm, ho, hg, he, hS⟩ := hp
  refine ⟨he, { r with s := s' }, ⟨rfl, ha⟩, rfl, ho.mono (fun j _ hj => .inr (.inl hj)), ?_, fun F' h1 h2 => ?_⟩
  · rintro j (e | e | e | e)
    · exact .inl (.inl e)
    · exact (hg j e).imp_left (fun e => .inr (.inl e))
    · exact .inl (.inr (.inr (.inl e)))
    · exact .inl (.inr (.inr (.inr e)))
  · have hgr : Grow F F' w.heap.size := by
      intro j hj
      rcases h1 j hj with e | e | e | e | e
      · exact .inl e
      · exact .inl (h.sub _ (.inl e))
      · exact (hg j e).imp_left (fun e => h.srv.sub j e)
      · exact .inl (h.sub _ (.inr (.inr (.inl e))))
      · exact .inl (h.sub _ (.inr (.inr (.inr e))))
    have hsv := hS F' (fun j hj => by
      rcases h1 j hj with e | e | e | e | e
      · exact .inl e
      · exact .inl (h.sub _ (.inl e))
      · exact .inr e
      · exact .inl (h.sub _ (.inr (.inr (.inl e))))
      · exact .inl (h.sub _ (.inr (.inr (.inr e))))) (fun j hj => h2 j (.inr (.inl hj)))
    have hG := h.srv.sub
    refine ⟨h.hd.only (ho.mono fun j _ => hG j) hgr, ?_, hsv, h.len, fun k c C hc hC => (h.cli k c C hc hC).only ho hG (fun j hj => h.s_c hc hj) hgr (fun j hj => h2 j (.inr (.inr (.inl ⟨k, c, hc, hj⟩)))) hsv.flt,
      h.vcs.out (h.vco.sub hG) ho, h.vco.grow h.vcs hgr, own_only h.own ho (fun j hj e => h.s_w e hj), h.way, fun y hy => (h.ops y hy).only (ho.mono fun j _ => hG j) hgr, h.ap, h2, hsv.flt⟩
    have := h.blk.only ho (fun e => h.a_s e rfl)
    unfold RP.cells at this ⊢
    dsimp only
    rw [ha]
    exact this
theorem map_set_a {cs : List CP} {k : Nat} {c c' : CP} (hc : cs[k]? = some c) (ha : c'.a = c.a) : (cs.set k c').map CP.a = cs.map CP.a := by
  rw [List.map_set, ha]
  exact List.set_at_self (by rw [List.getElem?_map, hc]; rfl)
theorem ptrs_eq {cs cs' : List CP} (h : cs'.map CP.a = cs.map CP.a) : ptrs cs' = ptrs cs := by
  have e : ∀ l : List CP, ptrs l = (l.map CP.a).map (fun a => Value.pointer (some ⟨a, 0, none⟩)) := fun l => by unfold ptrs; rw [List.map_map]; rfl
  rw [e, e, h]
/-- A client did something. -/
theorem RmR.client (h : RmR w F r R) {k : Nat} {c : CP} (hc : r.cs[k]? = some c) {C C' : CV} (hC : R.cl[k]? = some C) {ev : Value} {e : Ending} (hp : CliP F c ev C' w e w') : e = .returned ev ∧ RmS F r (R.setc k C') w w' := by
  obtain ⟨c', ha, ho, hg, he, hS⟩ := hp
  have hk := (List.getElem?_eq_some_iff.1 hc).1
  have hCR := h.cli k c C hc hC
  have hset : ∀ i, (r.cs.set k c')[i]? = if i = k then some c' else r.cs[i]? := fun i => by
    by_cases e : i = k
    · subst e; rw [if_pos rfl, List.getElem?_set_self hk]
    · rw [if_neg e, List.getElem?_set_ne (fun h => e h.symm)]
  have hgF : ∀ j, c'.F j → c.F j ∨ w.heap.size ≤ j := hg
  refine ⟨he, { r with cs := r.cs.set k c' }, ⟨rfl, rfl⟩, map_set_a hc ha, ho.mono (fun j _ hj => .inr (.inr (.inl ⟨k, c, hc, hj⟩))), ?_, fun F' h1 h2 => ?_⟩
  · rintro j (e | e | ⟨i, ci, hi, e⟩ | e)
    · exact .inl (.inl e)
    · exact .inl (.inr (.inl e))
    · dsimp only at hi
      rw [hset] at hi
      split at hi
      · cases hi
        exact (hgF j e).imp_left (fun e => .inr (.inr (.inl ⟨k, c, hc, e⟩)))
      · exact .inl (.inr (.inr (.inl ⟨i, ci, hi, e⟩)))
    · exact .inl (.inr (.inr (.inr e)))
  · have hsp : ∀ j, F' j → F j ∨ c'.F j := by
      intro j hj
      rcases h1 j hj with e | e | e | ⟨i, ci, hi, e⟩ | e
      · exact .inl e
      · exact .inl (h.sub _ (.inl e))
      · exact .inl (h.sub _ (.inr (.inl e)))
      · dsimp only at hi
        rw [hset] at hi
        split at hi
        · cases hi; exact .inr e
        · exact .inl (h.sub _ (.inr (.inr (.inl ⟨i, ci, hi, e⟩))))
      · exact .inl (h.sub _ (.inr (.inr (.inr e))))
    have hc'F : ∀ j, c'.F j → F' j := fun j hj => h2 j (.inr (.inr (.inl ⟨k, c', by dsimp only; rw [hset, if_pos rfl], hj⟩)))
    have hgr : Grow F F' w.heap.size := fun j hj => (hsp j hj).elim .inl (fun e => (hgF j e).imp_left (fun e => hCR.sub j e))
    have hcv := hS F' hsp hc'F
    have hG := hCR.sub
    have hne := hcv.ne
    have hca := hc'F
    have hf : c'.f = c.f ∨ w.heap.size ≤ c'.f := by
      rcases hgF c'.f (.inr rfl) with (e | e) | e
      · exact absurd (ha.trans e.symm) hne
      · exact .inl e
      · exact .inr e
    have hap : ∀ i ci, i ≠ k → r.cs[i]? = some ci → ci.a ≠ c'.a ∧ ci.f ≠ c'.f := fun i ci hik hi => by
      obtain ⟨a1, a2⟩ := h.ap i k ci c hik hi hc
      refine ⟨by rw [ha]; exact a1, fun e => ?_⟩
      rcases hf with e2 | e2
      · exact a2 (e.trans e2)
      · obtain ⟨Ci, -, hCi⟩ := h.cty hi
        have := hCi.lt ci.f (.inr rfl)
        omega
    refine ⟨h.hd.only (ho.mono fun j _ => hG j) hgr, h.blk.only ho (fun e => h.a_c hc e rfl), h.srv.only ho hG (fun j hj e => h.s_c hc e hj) hgr (fun j hj => h2 j (.inr (.inl hj))) hcv.flt, ?_, fun i ci Ci hi hCi => ?_,
      ?_, h.vco.grow h.vcs hgr, own_only h.own ho (fun j hj e => h.c_w hc e hj), h.way, fun y hy => (h.ops y hy).only (ho.mono fun j _ => hG j) hgr, fun i j ci cj hij hi hj => ?_, h2, hcv.flt⟩
    · show (r.cs.set k c').length = (R.cl.set k C').length
      rw [List.length_set, List.length_set]; exact h.len
    · dsimp only at hi
      have hCi : (R.cl.set k C')[i]? = some Ci := hCi
      rw [hset] at hi
      split at hi
      · rename_i e
        cases hi
        subst e
        rw [List.getElem?_set_self (by rw [← h.len]; exact hk)] at hCi
        cases hCi
        exact hcv
      · rename_i e
        rw [List.getElem?_set_ne (fun h => e h.symm)] at hCi
        exact (h.cli i ci Ci hi hCi).only ho hG (fun j hj => h.c_c e hi hc hj) hgr (fun j hj => h2 j (.inr (.inr (.inl ⟨i, ci, by dsimp only; rw [hset, if_neg e]; exact hi, hj⟩)))) hcv.flt
    · show Sl w' 1 r.vc (r.cs.set k c').length (ptrs (r.cs.set k c'))
      rw [ptrs_eq (map_set_a hc ha), List.length_set]
      exact h.vcs.out (h.vco.sub hG) ho
    · dsimp only at hi hj
      rw [hset] at hi hj
      split at hi
      · rename_i e
        cases hi
        rw [if_neg (fun e2 => hij (e.trans e2.symm))] at hj
        obtain ⟨b1, b2⟩ := hap j cj (fun e2 => hij (e.trans e2.symm)) hj
        exact ⟨fun e => b1 e.symm, fun e => b2 e.symm⟩
      · rename_i e
        split at hj
        · cases hj
          exact hap i ci e hi
        · exact h.ap i j ci cj hij hi hj
/-- What is under way turned. -/
theorem RmR.ways (h : RmR w F r R) {v' : Value} {L' : List (PK × Value)} {lost' : Int} (ho : Only (fun j => j = r.a ∨ r.vw.ownBlock = some j) w w') (hb : Blk w' r.a 132 #[.pointer (some ⟨r.s.a, 0, none⟩), r.vc, v', .int .i64 lost'])
    (hown : w'.ownsRow 0 158 7 v' L'.length (pks L')) (hv : ∀ k, v'.ownBlock = some k → r.vw.ownBlock = some k ∨ w.heap.size ≤ k) (hops : ∀ x ∈ L', OpO F w x.2 x.1.en.op) : RmS F r { R with way := L'.map Prod.fst, lost := lost' } w w' := by
  refine ⟨{ r with vw := v', L := L' }, ⟨rfl, rfl⟩, rfl, ho.mono (fun j _ hj => hj.elim .inl (fun e => .inr (.inr (.inr e)))), ?_, fun F' h1 h2 => ?_⟩
  · rintro j (e | e | e | e)
    · exact .inl (.inl e)
    · exact .inl (.inr (.inl e))
    · exact .inl (.inr (.inr (.inl e)))
    · exact (hv j e).imp_left (fun e => .inr (.inr (.inr e)))
  · have hgr : Grow F F' w.heap.size := by
      intro j hj
      rcases h1 j hj with e | e | e | e | e
      · exact .inl e
      · exact .inl (h.sub _ (.inl e))
      · exact .inl (h.sub _ (.inr (.inl e)))
      · exact .inl (h.sub _ (.inr (.inr (.inl e))))
      · exact (hv j e).imp_left (fun e => h.sub _ (.inr (.inr (.inr e))))
    have hG : ∀ j, (j = r.a ∨ r.vw.ownBlock = some j) → F j := fun j hj => h.sub j (hj.elim .inl (fun e => .inr (.inr (.inr e))))
    have hfl : ∀ j, F' j → j < w'.heap.size := fun j hj => by
      have hz := ho.size
      rcases h1 j hj with e | e | e | e | e
      · exact Nat.lt_of_lt_of_le (h.flt j e) hz
      · exact Nat.lt_of_lt_of_le (h.lt j (.inl e)) hz
      · exact Nat.lt_of_lt_of_le (h.lt j (.inr (.inl e))) hz
      · exact Nat.lt_of_lt_of_le (h.lt j (.inr (.inr (.inl e)))) hz
      · exact (hown.lt j e).2
    exact ⟨h.hd.only (ho.mono fun j _ => hG j) hgr, hb, h.srv.only ho hG (fun j hj e => e.elim (fun e => h.a_s hj e) (fun e => h.s_w hj e)) hgr (fun j hj => h2 j (.inr (.inl hj))) hfl, h.len,
      fun k c C hc hC => (h.cli k c C hc hC).only ho hG (fun j hj e => e.elim (fun e => h.a_c hc hj e) (fun e => h.c_w hc hj e)) hgr (fun j hj => h2 j (.inr (.inr (.inl ⟨k, c, hc, hj⟩)))) hfl,
      h.vcs.out (h.vco.sub hG) ho, h.vco.grow h.vcs hgr, hown, rfl, fun x hx => (hops x hx).only (ho.mono fun j _ => hG j) hgr, h.ap, h2, hfl⟩
end
end Go.Proofs.YtdgdajnbkfmijaaGreatDoor
/- A room's small methods; send. -/
namespace Go.Proofs.YtdgdajnbkfmijaaGreatDoor
open Go.RowKit Go.Sort
set_option maxRecDepth 100000
theorem Blk.drew_' {w : World} {g : Nat} {t : TypeId} {cs : Array Value} (h : Blk w g t cs) : Blk w.drew g t cs := h
theorem el_pk : El Tryz.prog 130 158 7 72 := El.mk' Tryz.underlying130 (by kernel_rfl) (by decide)
section
attribute [local go_sem] add_mk
variable {F : Nat → Prop} {w : World} {r : RP} {R : RM}
theorem rmany_calls (h : RmR w F r R) : Calls Tryz.prog 33 #[.pointer (some ⟨r.a, 0, none⟩)] w fun e w' => e = .returned (.int .i64 (R.way.length : Int)) ∧ w' = w := by
  obtain ⟨z0, z1, z2, z3⟩ := four_cells h.blk
  obtain ⟨A, c, hv⟩ := own_form h.own
  rw [hv, h.wl] at z2
  clear h hv
  go_enter Tryz.func33, Tryz.ntmps33
  go_wp2_with fail
  go_ret
  exact ⟨rfl, rfl⟩
theorem rmrev_calls (h : RmR w F r R) : Calls Tryz.prog 25 #[.pointer (some ⟨r.a, 0, none⟩)] w fun e w' => e = .returned (.int .i64 (R.srv.log.length : Int)) ∧ w' = w := by
  obtain ⟨z0, z1, z2, z3⟩ := four_cells h.blk
  have HR := Hd.mk (srev_calls h.srv)
  clear h
  go_enter Tryz.func25, Tryz.ntmps25
  go_wp2_with fail
  refine HR.out.mono ?_
  rintro e w1 ⟨rfl, rfl⟩
  go_wp2_with fail
  go_ret
  exact ⟨rfl, rfl⟩
theorem rmtext_calls (h : RmR w F r R) : Calls Tryz.prog 26 #[.pointer (some ⟨r.a, 0, none⟩)] w fun e w' => e = .returned (.string ⟨R.srv.doc.toArray⟩) ∧ Below w.heap.size w w' := by
  obtain ⟨z0, z1, z2, z3⟩ := four_cells h.blk
  have HR := Hd.mk (stext_calls h.srv)
  clear h
  go_enter Tryz.func26, Tryz.ntmps26
  go_wp2_with fail
  refine HR.out.mono ?_
  rintro e w1 ⟨rfl, hb⟩
  have HB := Hd.mk hb
  clear hb
  go_wp2_with fail
  go_ret
  exact ⟨rfl, HB.out⟩
/-- Element k of a slice of pointers. -/
theorem Sl.one_at {v : Value} {n : Nat} {xs : List Value} (h : Sl w 1 v n xs) {k : Nat} (hk : k < n) {u : Value} (hu : xs[k]? = some u) : ∃ b o c, v = .slice (some ⟨b, o, none⟩) n c ∧ b < w.heap.size ∧ w.cell? ⟨b, o + k, none⟩ = some u := by
  obtain ⟨A, c, hv, hc⟩ : ∃ A c, v = .slice A n c ∧ True := by obtain ⟨A, c, h1, -⟩ := h; exact ⟨A, c, h1, trivial⟩
  subst hv
  obtain ⟨b, o, rfl⟩ := h.addr1 (by omega)
  obtain ⟨A', c', hv, h2, h3, h4, h4', h5⟩ := h
  cases hv
  obtain ⟨ad, had, hb, hc⟩ := h5 (by omega)
  cases had
  have := hc k u hu
  rw [add_mk] at this
  exact ⟨b, o, c, rfl, hb, this⟩
theorem rmclient_calls (h : RmR w F r R) {k : Nat} {c : CP} (hc : r.cs[k]? = some c) : Calls Tryz.prog 27 #[.pointer (some ⟨r.a, 0, none⟩), .int .i64 (k : Int)] w fun e w' => e = .returned (.tuple #[.pointer (some ⟨c.a, 0, none⟩), .nilIface]) ∧ w' = w := by
  obtain ⟨z0, z1, z2, z3⟩ := four_cells h.blk
  have hk := (List.getElem?_eq_some_iff.1 hc).1
  obtain ⟨b, o, cc, hv, hb, c0⟩ := h.vcs.one_at (k := k) hk (u := .pointer (some ⟨c.a, 0, none⟩)) (by unfold ptrs; rw [List.getElem?_map, hc]; rfl)
  rw [hv] at z1
  clear h hv hc
  go_enter Tryz.func27, Tryz.ntmps27
  go_wp2_with fail
  go_ret2
  exact ⟨rfl, rfl⟩
theorem sl_lit_at {w : World} {t : TypeId} {size m H : Nat} {cs : Array Value} (hH : w.heap.size = H) (hl : cs.size = m * size) (hm : m ≤ maxLen) : Sl (w.alloc (.cells cs t)) size (.slice (some ⟨H, 0, none⟩) m m) m cs.toList := by
  subst hH
  exact Sl.lit hl hm
/-- A packet's value. -/
def pkV (p : PK) (v : Value) : Value := .agg #[.int .i64 p.kind, .int .i64 (p.k : Int), .int .i64 p.rev, .int .i64 p.id, .int .i64 p.en.who, .int .i64 p.en.id, v]
theorem pk_one {v : Value} (hv : v.oneCell' = true) (p : PK) : ∀ u ∈ pcv (p, v), u.oneCell' = true := by
  intro u hu
  simp only [pcv, List.mem_cons, List.not_mem_nil, or_false] at hu
  rcases hu with rfl | rfl | rfl | rfl | rfl | rfl | rfl
  all_goals first | rfl | exact hv
/-- One more is under way. -/
theorem RmR.sent {W2 w8 : World} {p : PK} {v v8 : Value} (h : RmR w F r R) (hb : Below w.heap.size w W2) (hn : ¬ 400 ≤ R.way.length) (hx : OpO F w v p.en.op) (h8 : w8.ownsRow 0 158 7 v8 (R.way.length + 1) (pks r.L ++ pcv (p, v)))
    (hg : W2.grownBy w8 r.vw.ownBlock) (hnew : ∀ k, v8.ownBlock = some k → r.vw.ownBlock = some k ∨ W2.heap.size ≤ k) : RmS F r (R.send p) w (w8.setCell ⟨r.a, 2, none⟩ v8) := by
  have h2 := h.below hb
  have hO := Only.of_grown hg
  have hO2 : Only (fun j => j = r.a) w8 (w8.setCell ⟨r.a, 2, none⟩ v8) := (Only.refl (fun j => j = r.a) w8).setCell (p := ⟨r.a, 2, none⟩) (.inl rfl) _
  have hna : v8.ownBlock ≠ some r.a := fun e => by
    rcases hnew _ e with e | e
    · exact h2.a_w e
    · have := h2.blk.lt; omega
  have hs : R.send p = { R with way := R.way ++ [p] } := by unfold RM.send; rw [if_neg hn]
  have hw := h2.ways (v' := v8) (L' := r.L ++ [(p, v)]) (lost' := R.lost) ((hO.mono (fun j _ e => .inr e.symm)).trans (hO2.mono (fun j _ e => .inl e))) ((h2.blk.only hO (fun e => h2.a_w e.symm)).set_ 2 v8)
    (by rw [List.length_append, h2.wl, pks_append, pks_one]; exact own_only h8 hO2 (fun k hk e => hna (by rw [hk, e]))) hnew
    (fun x hx' => by
      rcases List.mem_append.1 hx' with e | e
      · exact h2.ops x e
      · obtain rfl := List.mem_singleton.1 e
        exact hx.below hb (Grow.refl _ _))
  rw [List.map_append, h2.way] at hw
  rw [hs]
  exact RmS.from_below h hb hw
set_option maxHeartbeats 4000000 in
theorem send_calls {p : PK} {v : Value} (h : RmR w F r R) (hx : OpO F w v p.en.op) (hl : -1000000000 ≤ R.lost ∧ R.lost ≤ 1000000000) :
    Calls Tryz.prog 83 #[.pointer (some ⟨r.a, 0, none⟩), pkV p v] w fun e w' => e = .returned (.tuple #[]) ∧ RmS F r (R.send p) w w' := by
  obtain ⟨W, hW⟩ : ∃ W, W = w.alloc (.cells #[.int .i64 p.kind, .int .i64 (p.k : Int), .int .i64 p.rev, .int .i64 p.id, .int .i64 p.en.who, .int .i64 p.en.id, v] 158) := ⟨_, rfl⟩
  have hb : Below w.heap.size w W := by rw [hW]; exact ex_alloc (Below.refl _ _) _
  have h1 := h.below hb
  have hbx : Blk W w.heap.size 158 #[.int .i64 p.kind, .int .i64 (p.k : Int), .int .i64 p.rev, .int .i64 p.id, .int .i64 p.en.who, .int .i64 p.en.id, v] := by rw [hW]; exact Blk.new _ _ _
  obtain ⟨z0, z1, z2, z3⟩ := four_cells h.blk
  have fz := h.blk.frozen
  have lt := h.blk.lt
  obtain ⟨A, c, hv⟩ := own_form h.own
  have hwl := h.wl
  rw [hv, hwl] at z2
  have HL := Hd.mk h
  have H1 := Hd.mk h1
  have HB := Hd.mk hb
  have HV := Hd.mk hv
  have HWL := Hd.mk hwl
  have HX := Hd.mk hx
  have HBX := Hd.mk hbx
  obtain ⟨⟨Av, cv, hvv, -⟩, -⟩ := hx
  have HW := Hd.mk hW
  subst hvv
  obtain ⟨hl1, hl2⟩ := hl
  clear h h1 hb hv hwl hbx hW
  by_cases hfull : 400 ≤ R.way.length
  · have hi : (400 : Int) ≤ (R.way.length : Int) := by omega
    have HF := Hd.mk hfull
    clear hfull
    unfold pkV
    go_enter Tryz.func83, Tryz.ntmps83
    go_wp2_with fail
    (try simp only [Exit.inBlock, Exit.then])
    refine bodyPost_ret (results_none rfl _ _ _) rfl ?_
    refine ⟨rfl, RmS.then_below ?_ (ex_alloc (Below.refl _ _) _)⟩
    have hs : R.send p = { R with lost := R.lost + 1 } := by unfold RM.send; rw [if_pos HF.out]
    have hO : Only (fun j => j = r.a) w (w.setCell ⟨r.a, 3, none⟩ (.int .i64 (R.lost + 1))) := (Only.refl (fun j => j = r.a) w).setCell (p := ⟨r.a, 3, none⟩) (.inl rfl) _
    have hw := HL.out.ways (v' := r.vw) (L' := r.L) (lost' := R.lost + 1) (hO.mono (fun j _ e => .inl e)) (HL.out.blk.set_ 3 (.int .i64 (R.lost + 1))) (own_only HL.out.own hO (fun k hk e => HL.out.a_w (by rw [hk, e]))) (fun k hk => .inl hk) HL.out.ops
    rw [HL.out.way] at hw
    rw [hs]
    exact hw
  · have hi : ¬ (400 : Int) ≤ (R.way.length : Int) := by omega
    have HF : Hd (¬ 400 ≤ R.way.length) := ⟨hfull⟩
    have HOW : Hd (W.ownsRow 0 158 7 (.slice A R.way.length c) R.way.length (pks r.L)) := ⟨by have := H1.out.own; rw [HV.out, HWL.out] at this; exact this⟩
    clear hfull
    rw [HW.out] at HOW
    unfold pkV
    go_enter Tryz.func83, Tryz.ntmps83
    go_wp2_with fail
    go_region_law (refine step_sl el_pk [.int .i64 p.kind, .int .i64 (p.k : Int), .int .i64 p.rev, .int .i64 p.id, .int .i64 p.en.who, .int .i64 p.en.id, .slice Av p.en.op.length cv] (.slice (some ⟨w.heap.size + 1, 0, none⟩) 1 1) (HOW.out.drew.alloc _) (sl_lit_at (by simp) rfl (by unfold maxLen; omega)) rfl rfl rfl rfl (pk_one (v := .slice Av p.en.op.length cv) rfl p) (by unfold maxLen; omega) (by omega) (Nat.zero_le _) ?_; intro v8 w8 hown8 hbel8 hgr8 hnew8; have HO8 := Hd.mk hown8; obtain ⟨A8, c8, rfl⟩ := own_form hown8; have HGR8 := Hd.mk hgr8; have HNW8 := Hd.mk hnew8; have hbk8 := (((HL.out.blk.alloc _).drew_').alloc _).only (Only.of_grown hgr8) (fun e => HL.out.a_w (by rw [HV.out, HWL.out]; exact e.symm)); have HBK8 := Hd.mk hbk8; obtain ⟨y0, y1, y2, y3⟩ := four_cells hbk8; have yf := hbk8.frozen; have yl := hbk8.lt; rw [HV.out, HWL.out] at y2; clear hown8 hbel8 hgr8 hnew8 hbk8)
    all_goals
      go_wp2_with fail
      go_end0
      have hvq : Value.slice A R.way.length c = r.vw := by rw [HV.out, HWL.out]
      have g1 := HGR8.out
      have g2 := HNW8.out
      rw [hvq] at g1 g2
      refine ⟨rfl, HL.out.sent ?_ HF.out HX.out HO8.out g1 g2⟩
      exact ex_drew (ex_alloc (ex_alloc (Below.refl _ _) _) _)
end
end Go.Proofs.YtdgdajnbkfmijaaGreatDoor
/- A room's tells. -/
namespace Go.Proofs.YtdgdajnbkfmijaaGreatDoor
open Go.RowKit Go.Sort
set_option maxRecDepth 100000
theorem RM.sends_lost (r : RM) (l : List PK) : r.lost ≤ (r.sends l).lost ∧ (r.sends l).lost ≤ r.lost + (l.length : Int) := by
  induction l generalizing r with
  | nil => simp [RM.sends]
  | cons p l ih =>
    have h1 := ih (r.send p)
    have h2 : r.lost ≤ (r.send p).lost ∧ (r.send p).lost ≤ r.lost + 1 := by unfold RM.send; split <;> simp <;> omega
    have e : r.sends (p :: l) = (r.send p).sends l := rfl
    rw [e, List.length_cons]
    omega
theorem RM.sends_snoc (r : RM) (l : List PK) (p : PK) : r.sends (l ++ [p]) = (r.sends l).send p := by unfold RM.sends; rw [List.foldl_append]; rfl
theorem tolds_at {k n : Nat} {l : List EN} {i : Nat} (hi : i < l.length) : (tolds k n l)[i]? = some ⟨3, k, ((n + i : Nat) : Int), 0, l[i]⟩ := by
  induction l generalizing n i with
  | nil => simp at hi
  | cons e l ih =>
    rw [tolds]
    cases i with
    | zero => simp
    | succ i =>
      rw [List.getElem?_cons_succ, ih (by simpa using hi), List.getElem_cons_succ]
      congr 3
      omega
theorem tolds_take {k n : Nat} {l : List EN} {i : Nat} (hi : i < l.length) : (tolds k n l).take (i + 1) = (tolds k n l).take i ++ [⟨3, k, (n : Int) + (i : Int), 0, l[i]⟩] := by
  have h := tolds_at (k := k) (n := n) hi
  have hl : i < (tolds k n l).length := by rw [(tolds_wt _ _ _).2]; exact hi
  rw [List.take_succ_eq_append_getElem hl]
  rw [List.getElem?_eq_getElem hl] at h
  rw [Option.some.inj h]
  congr 3
section
attribute [local go_sem] add_mk
variable {F : Nat → Prop} {w : World} {r : RP} {R : RM}
/-- What is sent so far. -/
def TlS (F : Nat → Prop) (r : RP) (R : RM) (E : List EN) (k n : Nat) (w1 : World) (j : Nat) (wr : World) : Prop := RmS F r (R.sends ((tolds k n E).take j)) w1 wr
set_option maxHeartbeats 8000000 in
theorem tells_calls {k : Nat} {rev : Int} (h : RmR w F r R) (hN : R.srv.log.length ≤ 1000) (hl : -1000000 ≤ R.lost ∧ R.lost ≤ 900000000) :
    Calls Tryz.prog 130 #[.pointer (some ⟨r.a, 0, none⟩), .int .i64 (k : Int), .int .i64 rev] w fun e w' => e = .returned (.tuple #[]) ∧ RmS F r (R.tells k rev) w w' := by
  obtain ⟨z0, z1, z2, z3⟩ := four_cells h.blk
  have HLG := Hd.mk (slog_calls (r := rev) h.srv hN)
  have HL := Hd.mk h
  have HN := Hd.mk hN
  have HLO := Hd.mk hl
  clear h hN hl
  by_cases hrg : 0 ≤ rev ∧ rev ≤ (R.srv.log.length : Int)
  · obtain ⟨n, rfl⟩ := Int.eq_ofNat_of_zero_le hrg.1
    have HRG := Hd.mk hrg
    have hn1 : n ≤ 1000 := by have := HN.out; omega
    have HT : Hd (R.tells k n = R.sends (tolds k n (R.srv.log.drop n))) := ⟨by unfold RM.tells; rw [if_pos hrg, show ((n : Nat) : Int).toNat = n from by omega]⟩
    clear hrg
    go_enter Tryz.func130, Tryz.ntmps130
    go_wp2_with (go_at_call 18; refine HLG.out.mono ?_; rintro e w1 ⟨hb1, -, h1⟩; obtain ⟨v, L, rfl, hs, hm, hops, hf⟩ := h1 HRG.out; have HB1 := Hd.mk hb1; have HS := Hd.mk hs; have HM := Hd.mk hm; have HOPS := Hd.mk hops; have HFV := Hd.mk hf; obtain ⟨A, c, rfl, -⟩ := hs; clear hb1 h1 hm hops hf)
    have HLL : Hd (L.length ≤ 1000 ∧ L.length = (R.srv.log.drop n).length) := ⟨by have := congrArg List.length HM.out; rw [List.length_map, List.length_drop, show ((n : Nat) : Int).toNat = n from by omega] at this; rw [List.length_drop]; have := HN.out; omega⟩
    have HR1 := Hd.mk (HL.out.below HB1.out)
    have hll := HLL.out.1
    clear z0 z1 z2 z3
    go_loopw [23] (fun i wr => ∃ j : Nat, j ≤ L.length ∧ i = .int .i64 j ∧ TlS F r R (R.srv.log.drop n) k n w1 j wr) (fun i _ => L.length - (intOf i).toNat)
    case atStart => exact ⟨0, by omega, rfl, RmS.of_below HR1.out (Below.refl _ _)⟩
    case round =>
      obtain ⟨j, hj, rfl, hT⟩ := hrel
      have HTS := Hd.mk hT
      clear hT
      by_cases hjl : j < L.length
      · obtain ⟨r1, F1, ha, hcs, hR, ho, hoF, hgr, hnx⟩ := RmS.next HR1.out HTS.out
        have hsl : Sl wr 3 (.slice A L.length c) L.length (ens L) := HS.out.frs HFV.out ho (fun q hq => HL.out.lt q hq)
        obtain ⟨b, o, c', hv, hbw, c0, c1, c2⟩ := hsl.entry hjl hjl
        cases hv
        have hmem : L[j] ∈ L := List.getElem_mem hjl
        have hop := HOPS.out _ hmem
        have hE : (R.srv.log.drop n)[j]'(by rw [← HLL.out.2]; exact hjl) = L[j].1 := by
          have e1 : (L.map Prod.fst)[j]'(by rw [List.length_map]; exact hjl) = L[j].1 := by rw [List.getElem_map]
          rw [← e1]
          have h2 := HM.out
          rw [show ((n : Nat) : Int).toNat = n from by omega] at h2
          simp only [h2]
        have HTK := Hd.mk (tolds_take (k := k) (n := n) (l := R.srv.log.drop n) (i := j) (by rw [← HLL.out.2]; exact hjl))
        rw [hE] at HTK
        generalize L[j] = x at *
        obtain ⟨en, vx⟩ := x
        obtain ⟨who, id, op⟩ := en
        dsimp only at c0 c1 c2 hop HTK
        have hopO : OpO F1 wr vx op := (OpO.frs hop.1 hop.2 HL.out.flt).only hoF hgr
        obtain ⟨Ax, cx, rfl, -⟩ := hop.1
        obtain ⟨wq, hwq⟩ : ∃ W, W = wr.alloc (.cells #[.int .i64 who, .int .i64 id, .slice Ax op.length cx] 120) := ⟨_, rfl⟩
        have hbq : Below wr.heap.size wr wq := by rw [hwq]; exact ex_alloc (Below.refl _ _) _
        have HWQ := Hd.mk hwq
        have HNX := Hd.mk hnx
        have hlo := (R.sends_lost ((tolds k n (R.srv.log.drop n)).take j))
        rw [List.length_take] at hlo
        have HSD := Hd.mk (send_calls (p := ⟨3, k, (n : Int) + (j : Int), 0, ⟨who, id, op⟩⟩) (v := .slice Ax op.length cx) (hR.below hbq) (hopO.below hbq (Grow.refl _ _)) (by have := HLO.out; omega))
        have HBQ := Hd.mk (And.intro hR hbq)
        rw [ha.1] at HSD
        unfold pkV at HSD
        rw [hwq] at HSD
        dsimp only at HSD
        clear hop hsl hR ho hoF hgr hnx hopO hlo hwq hbq hcs ha hmem hE
        go_wp2_with (go_at_call 83; refine HSD.out.mono ?_; rintro e w3 ⟨rfl, hs3⟩; have HS3 := Hd.mk hs3; clear hs3)
        refine ⟨⟨j + 1, by omega, by go_num, ?_⟩, by simp only [intOf]; omega⟩
        unfold TlS
        rw [HTK.out, RM.sends_snoc]
        have h3 := HS3.out
        rw [← HWQ.out] at h3
        exact HNX.out _ _ (RmS.from_below HBQ.out.1 HBQ.out.2 h3)
      · obtain rfl : j = L.length := by omega
        go_wp2_with fail
        go_end0
        refine ⟨rfl, RmS.from_below HL.out HB1.out ?_⟩
        have h3 := HTS.out
        unfold TlS at h3
        rw [List.take_of_length_le (by rw [(tolds_wt _ _ _).2]; exact Nat.le_of_eq HLL.out.2.symm)] at h3
        rw [HT.out]
        exact h3
  · have HRG := Hd.mk hrg
    have HT : Hd (R.tells k rev = R) := ⟨by unfold RM.tells; rw [if_neg hrg]⟩
    clear hrg
    go_enter Tryz.func130, Tryz.ntmps130
    go_wp2_with (go_at_call 18; refine HLG.out.mono ?_; rintro e w1 ⟨hb1, h1, -⟩; obtain rfl := h1 HRG.out; unfold errno; have HB1 := Hd.mk hb1; clear hb1 h1)
    (try simp only [Exit.inBlock, Exit.then])
    refine bodyPost_ret (results_none rfl _ _ _) rfl ?_
    rw [HT.out]
    exact ⟨rfl, RmS.of_below HL.out HB1.out⟩
end
end Go.Proofs.YtdgdajnbkfmijaaGreatDoor
/- A room's comes. -/
namespace Go.Proofs.YtdgdajnbkfmijaaGreatDoor
open Go.RowKit Go.Sort
set_option maxRecDepth 100000
/-- What is asked of a packet that comes. -/
structure CmI (w : World) (F : Nat → Prop) (r : RP) (R : RM) (p : PK) (v : Value) (C : CV) (c : CP) (N : Int) : Prop where
  rm : RmR w F r R
  op : OpO F w v p.en.op
  ok : RMok N R
  n : N ≤ 1000000
  tk : R.srv.tk ≤ 900000000
  lost : -1000000 ≤ R.lost ∧ R.lost ≤ 800000000
  hC : R.cl[p.k]? = some C
  hc : r.cs[p.k]? = some c
  pk : PKok R.srv C p
theorem CmI.below {w w' : World} {F : Nat → Prop} {r : RP} {R : RM} {p : PK} {v : Value} {C : CV} {c : CP} {N : Int} (h : CmI w F r R p v C c N) (hb : Below w.heap.size w w') : CmI w' F r R p v C c N :=
  ⟨h.rm.below hb, h.op.below hb (Grow.refl _ _), h.ok, h.n, h.tk, h.lost, h.hC, h.hc, h.pk⟩
theorem CmI.k6 {w : World} {F : Nat → Prop} {r : RP} {R : RM} {p : PK} {v : Value} {C : CV} {c : CP} {N : Int} (h : CmI w F r R p v C c N) (hn : R.cl.length ≤ 1000000) : (Lit.int .i64 (p.k : Int)).wf = true := by
  have := (List.getElem?_eq_some_iff.1 h.hC).1
  simp [Lit.wf, IntKind.min, IntKind.max, IntKind.signed, IntKind.bits]
  omega
section
attribute [local go_sem] add_mk
variable {F : Nat → Prop} {w : World} {r : RP} {R : RM} {p : PK} {v : Value} {C : CV} {c : CP} {N : Int}
set_option maxHeartbeats 8000000 in
theorem comes_look (h : CmI w F r R p v C c N) (hk : p.kind = 2) :
    Calls Tryz.prog 87 #[.pointer (some ⟨r.a, 0, none⟩), pkV p v] w fun e w' => e = .returned (.tuple #[]) ∧ RmS F r (R.comes p) w w' := by
  have hpk := (List.getElem?_eq_some_iff.1 h.hc).1
  obtain ⟨b, o, cc, hv, hbb, c0⟩ := h.rm.vcs.one_at (k := p.k) hpk (u := .pointer (some ⟨c.a, 0, none⟩)) (by unfold ptrs; rw [List.getElem?_map, h.hc]; rfl)
  obtain ⟨z0, z1, z2, z3⟩ := four_cells h.rm.blk
  rw [hv] at z1
  have lt := h.rm.blk.lt
  obtain ⟨A, ca, hvv, -⟩ := h.op.sl
  have HL := Hd.mk h
  obtain ⟨kind, k, rev, id, en⟩ := p
  obtain ⟨who, eid, op⟩ := en
  dsimp only at hk hvv hpk c0
  subst hk hvv
  have HT := fun W (hb : Below w.heap.size w W) => Hd.mk (tells_calls (k := k) (rev := rev) (h.rm.below hb) (by have := h.ok.ln; omega) (by have := h.lost; omega))
  have HR : Hd (R.comes ⟨2, k, rev, id, ⟨who, eid, op⟩⟩ = R.tells k rev) := ⟨by unfold RM.comes; rw [if_neg (by decide : ¬ (2 : Int) = 1), if_pos (rfl : (2 : Int) = 2)]⟩
  clear h hv
  unfold pkV
  go_enter Tryz.func87, Tryz.ntmps87
  go_wp2_with fail
  go_quiet (fail)
  go_wp2_with fail
  refine ((HT _ (ex_drewN nq (ex_alloc (Below.refl _ _) _))).out).mono ?_
  rintro e w3 ⟨rfl, h3⟩
  have H3 := Hd.mk h3
  clear h3
  go_wp2_with fail
  go_end0
  rw [HR.out]
  exact ⟨rfl, RmS.from_below HL.out.rm (ex_drewN nq (ex_alloc (Below.refl _ _) _)) H3.out⟩
set_option maxHeartbeats 8000000 in
theorem comes_told (h : CmI w F r R p v C c N) (hk : p.kind = 3) :
    Calls Tryz.prog 87 #[.pointer (some ⟨r.a, 0, none⟩), pkV p v] w fun e w' => e = .returned (.tuple #[]) ∧ RmS F r (R.comes p) w w' := by
  have hpk := (List.getElem?_eq_some_iff.1 h.hc).1
  obtain ⟨b, o, cc, hv, hbb, c0⟩ := h.rm.vcs.one_at (k := p.k) hpk (u := .pointer (some ⟨c.a, 0, none⟩)) (by unfold ptrs; rw [List.getElem?_map, h.hc]; rfl)
  obtain ⟨z0, z1, z2, z3⟩ := four_cells h.rm.blk
  rw [hv] at z1
  have lt := h.rm.blk.lt
  obtain ⟨A, ca, hvv, -⟩ := h.op.sl
  have HL := Hd.mk h
  obtain ⟨kind, k, rev, id, en⟩ := p
  obtain ⟨who, eid, op⟩ := en
  dsimp only at hk hvv hpk c0
  subst hk hvv
  have hck := h.ok.cl _ _ h.hC
  have hf : rev = C.rev → ∃ Z, Fit_ C ⟨who, eid, op⟩ Z := fun e => by
    have he := h.pk.told rfl
    dsimp only at he
    rw [e, show ((C.rev : Nat) : Int).toNat = C.rev from by omega] at he
    obtain ⟨Z, hZ, -⟩ := hck.fit h.ok.sv he
    exact ⟨Z, hZ⟩
  have HT := fun W (hb : Below w.heap.size w W) => Hd.mk (ctake_any (e := ⟨who, eid, op⟩) (v := .slice A op.length ca) (rev := rev) ((h.rm.below hb).cli k c C h.hc h.hC) ((h.below hb).rm.hd) hck.ok h.n (by have := hck.rev; have := h.ok.ln; omega) ((h.below hb).op) hf)
  have HR : Hd (R.comes ⟨3, k, rev, id, ⟨who, eid, op⟩⟩ = R.setc k (C.take rev ⟨who, eid, op⟩)) := ⟨by unfold RM.comes; rw [if_neg (by decide : ¬ (3 : Int) = 1), if_neg (by decide : ¬ (3 : Int) = 2), if_pos (rfl : (3 : Int) = 3), h.hC]⟩
  clear h hv hck hf
  unfold pkV
  go_enter Tryz.func87, Tryz.ntmps87
  go_wp2_with fail
  go_quiet (fail)
  go_wp2_with fail
  refine ((HT _ (ex_drewN nq (ex_alloc (Below.refl _ _) _))).out).mono ?_
  intro e w3 h3
  have h4 := (HL.out.rm.below (ex_drewN nq (ex_alloc (Below.refl _ _) _))).client HL.out.hc HL.out.hC h3
  obtain ⟨rfl, h5⟩ := h4
  have H3 := Hd.mk h5
  clear h3 h5
  go_wp2_with fail
  go_end0
  rw [HR.out]
  exact ⟨rfl, RmS.from_below HL.out.rm (ex_drewN nq (ex_alloc (Below.refl _ _) _)) H3.out⟩
set_option maxHeartbeats 8000000 in
theorem comes_refuse (h : CmI w F r R p v C c N) (hk : p.kind = 4) :
    Calls Tryz.prog 87 #[.pointer (some ⟨r.a, 0, none⟩), pkV p v] w fun e w' => e = .returned (.tuple #[]) ∧ RmS F r (R.comes p) w w' := by
  have hpk := (List.getElem?_eq_some_iff.1 h.hc).1
  obtain ⟨b, o, cc, hv, hbb, c0⟩ := h.rm.vcs.one_at (k := p.k) hpk (u := .pointer (some ⟨c.a, 0, none⟩)) (by unfold ptrs; rw [List.getElem?_map, h.hc]; rfl)
  obtain ⟨z0, z1, z2, z3⟩ := four_cells h.rm.blk
  rw [hv] at z1
  have lt := h.rm.blk.lt
  obtain ⟨A, ca, hvv, -⟩ := h.op.sl
  have HL := Hd.mk h
  obtain ⟨kind, k, rev, id, en⟩ := p
  obtain ⟨who, eid, op⟩ := en
  dsimp only at hk hvv hpk c0
  subst hk hvv
  have hck := h.ok.cl _ _ h.hC
  have HT := fun W (hb : Below w.heap.size w W) => Hd.mk (crefused_any (id := id) ((h.rm.below hb).cli k c C h.hc h.hC) hck.ok h.n)
  have HR : Hd (R.comes ⟨4, k, rev, id, ⟨who, eid, op⟩⟩ = R.setc k (C.refused id)) := ⟨by unfold RM.comes; rw [if_neg (by decide : ¬ (4 : Int) = 1), if_neg (by decide : ¬ (4 : Int) = 2), if_neg (by decide : ¬ (4 : Int) = 3), if_pos (rfl : (4 : Int) = 4), h.hC]⟩
  clear h hv hck
  unfold pkV
  go_enter Tryz.func87, Tryz.ntmps87
  go_wp2_with fail
  go_quiet (fail)
  go_wp2_with fail
  refine ((HT _ (ex_drewN nq (ex_alloc (Below.refl _ _) _))).out).mono ?_
  intro e w3 h3
  have h4 := (HL.out.rm.below (ex_drewN nq (ex_alloc (Below.refl _ _) _))).client HL.out.hc HL.out.hC h3
  obtain ⟨rfl, h5⟩ := h4
  have H3 := Hd.mk h5
  clear h3 h5
  go_wp2_with fail
  go_end0
  rw [HR.out]
  exact ⟨rfl, RmS.from_below HL.out.rm (ex_drewN nq (ex_alloc (Below.refl _ _) _)) H3.out⟩
end
end Go.Proofs.YtdgdajnbkfmijaaGreatDoor
/- A room's comes: a client's operation. -/
namespace Go.Proofs.YtdgdajnbkfmijaaGreatDoor
open Go.RowKit Go.Sort
set_option maxRecDepth 100000
theorem seven_cells {w : World} {g : Nat} {ty : TypeId} {a0 a1 a2 a3 a4 a5 a6 : Value} (h : Blk w g ty #[a0, a1, a2, a3, a4, a5, a6]) :
    w.cell? ⟨g, 0, none⟩ = some a0 ∧ w.cell? ⟨g, 1, none⟩ = some a1 ∧ w.cell? ⟨g, 2, none⟩ = some a2 ∧ w.cell? ⟨g, 3, none⟩ = some a3 ∧ w.cell? ⟨g, 4, none⟩ = some a4 ∧ w.cell? ⟨g, 5, none⟩ = some a5 ∧ w.cell? ⟨g, 6, none⟩ = some a6 := by
  have z := fun j => h.cell j
  have z0 := z 0
  have z1 := z 1
  have z2 := z 2
  have z3 := z 3
  have z4 := z 4
  have z5 := z 5
  have z6 := z 6
  simp only [List.getElem?_toArray, List.getElem?_cons_zero, List.getElem?_cons_succ] at z0 z1 z2 z3 z4 z5 z6
  exact ⟨z0, z1, z2, z3, z4, z5, z6⟩
/-- A room, beside a block that is apart of it; from a step's beginning on. -/
structure RmX (F0 : Nat → Prop) (r0 : RP) (w0 : World) (B : Nat) (T : TypeId) (cs : Array Value) (R : RM) (w : World) : Prop where
  ex : ∃ r F, (r.a = r0.a ∧ r.s.a = r0.s.a) ∧ RmR w F r R ∧ (∀ R2 w3, RmS F r R2 w w3 → RmS F0 r0 R2 w0 w3) ∧ ¬ r.F B
  box : Blk w B T cs
section
variable {F0 : Nat → Prop} {r0 : RP} {w0 w w' : World} {B : Nat} {T : TypeId} {cs : Array Value} {R R' : RM}
theorem RmX.fin (h : RmX F0 r0 w0 B T cs R w) : RmS F0 r0 R w0 w := by
  obtain ⟨⟨r, F, h1, h2, h3, h4⟩, h5⟩ := h
  exact h3 R w (RmS.of_below h2 (Below.refl _ _))
theorem RmX.start (h : RmR w0 F0 r0 R) (hb : Below w0.heap.size w0 w) (hbx : Blk w B T cs) (hB : w0.heap.size ≤ B) : RmX F0 r0 w0 B T cs R w :=
  ⟨⟨r0, F0, ⟨rfl, rfl⟩, h.below hb, fun _ _ k => RmS.from_below h hb k, fun e => by have := h.lt _ e; omega⟩, hbx⟩
theorem RmX.below (h : RmX F0 r0 w0 B T cs R w) (hb : Below w.heap.size w w') : RmX F0 r0 w0 B T cs R w' := by
  obtain ⟨⟨r, F, h1, h2, h3, h4⟩, h5⟩ := h
  exact ⟨⟨r, F, h1, h2.below hb, fun _ _ k => h3 _ _ (RmS.from_below h2 hb k), h4⟩, h5.below hb h5.lt⟩
theorem RmX.call (h : RmX F0 r0 w0 B T cs R w) {n : Nat} {args : Array Value} {ev : Value} (hc : ∀ r F, r.a = r0.a ∧ r.s.a = r0.s.a → RmR w F r R → Calls Tryz.prog n args w (fun e w' => e = .returned ev ∧ RmS F r R' w w')) :
    Calls Tryz.prog n args w (fun e w' => e = .returned ev ∧ RmX F0 r0 w0 B T cs R' w') := by
  obtain ⟨⟨r, F, h1, h2, h3, h4⟩, h5⟩ := h
  refine (hc r F h1 h2).mono ?_
  rintro e w' ⟨rfl, hs⟩
  obtain ⟨r1, F1, a1, a2, a3, a4, a5, a6, a7, a8⟩ := RmS.next' h2 hs
  exact ⟨rfl, ⟨r1, F1, ⟨a1.1.trans h1.1, a1.2.trans h1.2⟩, a3, fun R2 w3 k => h3 _ _ (a8 _ _ k), fun e => (a7 _ e).elim h4 (fun e => by have := h5.lt; omega)⟩, h5.only a4 h4⟩
theorem RmX.ptr (h : RmX F0 r0 w0 B T cs R w) : w.cell? ⟨r0.a, 0, none⟩ = some (.pointer (some ⟨r0.s.a, 0, none⟩)) ∧ r0.a < w.heap.size := by
  obtain ⟨⟨r, F, h1, h2, h3, h4⟩, h5⟩ := h
  obtain ⟨z0, -, -, -⟩ := four_cells h2.blk
  rw [← h1.1, ← h1.2]
  exact ⟨z0, h2.blk.lt⟩
theorem RmX.hdl (h : RmX F0 r0 w0 B T cs R w) : Hdl w := by
  obtain ⟨⟨r, F, h1, h2, h3, h4⟩, h5⟩ := h
  exact h2.hd.1
theorem RmX.rev (h : RmX F0 r0 w0 B T cs R w) : Calls Tryz.prog 15 #[.pointer (some ⟨r0.s.a, 0, none⟩)] w fun e w' => e = .returned (.int .i64 (R.srv.log.length : Int)) ∧ w' = w := by
  obtain ⟨⟨r, F, h1, h2, h3, h4⟩, h5⟩ := h
  rw [← h1.2]
  exact srev_calls h2.srv
end
/-- What is read of the packet's box, and of the room. -/
abbrev BX7 (B : Nat) (ra : Nat) (sp : Value) (a0 a1 a2 a3 a4 a5 a6 : Value) (w' : World) : Prop := Blk w' B 158 #[a0, a1, a2, a3, a4, a5, a6] ∧ w'.cell? ⟨B, 0, none⟩ = some a0 ∧ w'.cell? ⟨B, 1, none⟩ = some a1 ∧ w'.cell? ⟨B, 2, none⟩ = some a2 ∧ w'.cell? ⟨B, 3, none⟩ = some a3 ∧ w'.cell? ⟨B, 4, none⟩ = some a4 ∧ w'.cell? ⟨B, 5, none⟩ = some a5 ∧ w'.cell? ⟨B, 6, none⟩ = some a6 ∧ w'.cell? ⟨ra, 0, none⟩ = some sp
theorem BX7.of {B ra : Nat} {sp a0 a1 a2 a3 a4 a5 a6 : Value} {w' : World} (h : Blk w' B 158 #[a0, a1, a2, a3, a4, a5, a6]) (hr : w'.cell? ⟨ra, 0, none⟩ = some sp) : BX7 B ra sp a0 a1 a2 a3 a4 a5 a6 w' := by
  obtain ⟨z0, z1, z2, z3, z4, z5, z6⟩ := seven_cells h
  exact ⟨h, z0, z1, z2, z3, z4, z5, z6, hr⟩
section
attribute [local go_sem] add_mk
variable {F : Nat → Prop} {w : World} {r : RP} {R : RM} {p : PK} {v : Value} {C : CV} {c : CP} {N : Int}
set_option maxHeartbeats 16000000 in
theorem comes_ask (h : CmI w F r R p v C c N) (hk : p.kind = 1) (hcl : R.cl.length ≤ 1000000) :
    Calls Tryz.prog 87 #[.pointer (some ⟨r.a, 0, none⟩), pkV p v] w fun e w' => e = .returned (.tuple #[]) ∧ RmS F r (R.comes p) w w' := by
  have hpk := (List.getElem?_eq_some_iff.1 h.hc).1
  obtain ⟨b, o, cc, hv, hbb, c0⟩ := h.rm.vcs.one_at (k := p.k) hpk (u := .pointer (some ⟨c.a, 0, none⟩)) (by unfold ptrs; rw [List.getElem?_map, h.hc]; rfl)
  obtain ⟨z0, z1, z2, z3⟩ := four_cells h.rm.blk
  rw [hv] at z1
  have lt := h.rm.blk.lt
  obtain ⟨A, ca, hvv, -⟩ := h.op.sl
  have HL := Hd.mk h
  have HK := Hd.mk (h.k6 hcl)
  obtain ⟨kind, k, rev, id, en⟩ := p
  obtain ⟨who, eid, op⟩ := en
  dsimp only at hk hvv hpk c0 HK
  subst hk hvv
  have HSZ : Hd (plen op ≤ 100000 ∧ op.length ≤ 200000) := ⟨by
    obtain ⟨-, -, g1, g2, g3, -⟩ := h.pk.ask rfl
    have := parts_le (fun p hp => (g1 p hp).1)
    dsimp only at this g2 g3 ⊢
    omega⟩
  obtain ⟨t, ht⟩ : ∃ t, t = R.srv.take (k : Int) id rev op := ⟨_, rfl⟩
  obtain ⟨bx, hbxq⟩ : ∃ bx : Array Value, bx = #[.int .i64 1, .int .i64 (k : Int), .int .i64 rev, .int .i64 id, .int .i64 who, .int .i64 eid, .slice A op.length ca] := ⟨_, rfl⟩
  have HT : ∀ W, Below w.heap.size w W → Blk W w.heap.size 158 bx → Calls Tryz.prog 12 #[.pointer (some ⟨r.s.a, 0, none⟩), .int .i64 (k : Int), .int .i64 id, .int .i64 rev, .slice A op.length ca] W fun e w2 => e = .returned (errOf t.1) ∧ RmX F r w w.heap.size 158 bx { R with srv := t.2 } w2 := by
    intro W hb hx
    refine (stake_calls (who := (k : Int)) (id := id) (rev := rev) (op := op) (v := .slice A op.length ca) (h.below hb).rm.srv (h.below hb).rm.hd (by have := h.ok.ln; omega) (by have := h.tk; omega) HK.out (h.below hb).op HSZ.out.1 HSZ.out.2).mono ?_
    intro e w2 h2
    rw [← ht] at h2
    obtain ⟨rfl, hs2⟩ := (h.below hb).rm.served h2
    obtain ⟨r1, F1, a1, a2, a3, a4, a5, a6, a7, a8⟩ := RmS.next' (h.below hb).rm hs2
    have hz := hx.lt
    exact ⟨rfl, ⟨r1, F1, a1, a3, fun R2 w3 q => RmS.from_below h.rm hb (a8 _ _ q), fun e => (a7 _ e).elim (fun e => by have := h.rm.lt _ e; omega) (fun e => by omega)⟩, hx.only a4 (fun e => by have := h.rm.lt _ e; omega)⟩
  have hln : t.2.log.length ≤ 300 := by
    have := (h.ok.served h.hC h.pk rfl).ln
    dsimp only at this
    rw [ht]; exact this
  have HR : Hd (R.comes ⟨1, k, rev, id, ⟨who, eid, op⟩⟩ = if t.1 ≠ 0 ∧ t.1 ≠ 8 then (RM.tells { R with srv := t.2 } k rev).send ⟨4, k, (t.2.log.length : Int), id, noEn⟩ else RM.tells { R with srv := t.2 } k rev) := ⟨by unfold RM.comes; rw [if_pos (rfl : (1 : Int) = 1), ht]⟩
  have HTS : Hd (∀ W, RmX F r w w.heap.size 158 bx { R with srv := t.2 } W → Calls Tryz.prog 130 #[.pointer (some ⟨r.a, 0, none⟩), .int .i64 (k : Int), .int .i64 rev] W fun e w' => e = .returned (.tuple #[]) ∧ RmX F r w w.heap.size 158 bx (RM.tells { R with srv := t.2 } k rev) w') :=
    ⟨fun W h1 => h1.call (fun r1 F1 ha h1 => by rw [← ha.1]; exact tells_calls (k := k) (rev := rev) h1 (by dsimp only; omega) (by have := h.lost; dsimp only; omega))⟩
  have HLO : Hd (-1000000 ≤ (RM.tells { R with srv := t.2 } k rev).lost ∧ (RM.tells { R with srv := t.2 } k rev).lost ≤ 900000000) := ⟨by
    have h0 := h.lost
    unfold RM.tells
    dsimp only
    split
    · have := RM.sends_lost { R with srv := t.2 } (tolds k rev.toNat (t.2.log.drop rev.toNat))
      rw [(tolds_wt _ _ _).2, List.length_drop] at this
      dsimp only at this
      omega
    · dsimp only; omega⟩
  have hsl2 := RM.tells_srv { R with srv := t.2 } k rev
  have HSR := Hd.mk hsl2.1
  have HSD : Hd (∀ W, RmX F r w w.heap.size 158 bx (RM.tells { R with srv := t.2 } k rev) W → Calls Tryz.prog 83 #[.pointer (some ⟨r.a, 0, none⟩), .agg #[.int .i64 4, .int .i64 (k : Int), .int .i64 (t.2.log.length : Int), .int .i64 id, .int .i64 0, .int .i64 0, .slice none 0 0]] W fun e w' => e = .returned (.tuple #[]) ∧ RmX F r w w.heap.size 158 bx ((RM.tells { R with srv := t.2 } k rev).send ⟨4, k, (t.2.log.length : Int), id, noEn⟩) w') :=
    ⟨fun W h1 => h1.call (fun r1 F1 ha h1 => by rw [← ha.1]; exact send_calls (p := ⟨4, k, (t.2.log.length : Int), id, noEn⟩) (v := .slice none 0 0) h1 (OpO.nil _ _) (by have := HLO.out; omega))⟩
  have HRV : Hd (∀ W, RmX F r w w.heap.size 158 bx (RM.tells { R with srv := t.2 } k rev) W → Calls Tryz.prog 15 #[.pointer (some ⟨r.s.a, 0, none⟩)] W fun e w' => e = .returned (.int .i64 (t.2.log.length : Int)) ∧ w' = W) :=
    ⟨fun W h1 => by have := h1.rev; rw [HSR.out] at this; exact this⟩
  clear h hv hln hsl2 ht
  unfold pkV
  go_enter Tryz.func87, Tryz.ntmps87
  go_wp2_with fail
  go_quiet (fail)
  obtain ⟨W1, hW1⟩ : ∃ W, W = (w.alloc (.cells #[.int .i64 1, .int .i64 (k : Int), .int .i64 rev, .int .i64 id, .int .i64 who, .int .i64 eid, .slice A op.length ca] 158)).drewN nq := ⟨_, rfl⟩
  have hb1 : Below w.heap.size w W1 := by rw [hW1]; exact ex_drewN nq (ex_alloc (Below.refl _ _) _)
  have hbx : Blk W1 w.heap.size 158 bx := by rw [hW1, hbxq]; exact Blk.new w _ _
  rw [← hW1]
  have HTK := Hd.mk (HT W1.drew (ex_drew hb1) hbx)
  clear z0 z1 z2 z3 c0 hbb hW1 hpk HT
  obtain ⟨z0, z1, z2, z3⟩ := four_cells (HL.out.rm.below hb1).blk
  have HQ : Hd (bx = #[.int .i64 1, .int .i64 (k : Int), .int .i64 rev, .int .i64 id, .int .i64 who, .int .i64 eid, .slice A op.length ca]) := ⟨hbxq⟩
  rw [hbxq] at hbx
  obtain ⟨q0, q1, q2, q3, q4, q5, q6⟩ := seven_cells hbx
  have ql := hbx.lt
  have HBX := Hd.mk (BX7.of (ra := r.a) (sp := .pointer (some ⟨r.s.a, 0, none⟩)) (hbx.drew_') z0)
  have hrl : r.a < W1.heap.size := (HL.out.rm.below hb1).blk.lt
  clear hb1 hbx hbxq z1 z2 z3
  go_upto_region 4 with fail
  go_region_held3 (fun w' => BX7 w.heap.size r.a (.pointer (some ⟨r.s.a, 0, none⟩)) (.int .i64 1) (.int .i64 (k : Int)) (.int .i64 rev) (.int .i64 id) (.int .i64 who) (.int .i64 eid) (.slice A op.length ca) w')
    (first | exact HBX2.out | exact HBX.out | assumption)
    (first | (go_at_call 12; refine HTK.out.mono ?_; rintro e w2 ⟨rfl, h2⟩; have H2 := Hd.mk h2; have hbx2 := h2.box; rw [HQ.out] at hbx2; have HBX2 := Hd.mk (BX7.of (ra := r.a) (sp := .pointer (some ⟨r.s.a, 0, none⟩)) hbx2 h2.ptr.1); clear h2 hbx2))
  all_goals
    obtain ⟨-, y0, y1, y2, y3, y4, y5, y6, yr⟩ := HBX2.out
    have yl := H2.out.box.lt
    have yrl := H2.out.ptr.2
    clear z0 q0 q1 q2 q3 q4 q5 q6 ql HTK HBX hrl
    by_cases h0 : t.1 = 0
    · have HZ := Hd.mk h0
      rw [h0, errOf_zero]
      clear h0
      go_wp2_with fail
      refine (HTS.out _ H2.out).mono ?_
      rintro e w3 ⟨rfl, h3⟩
      have H3 := Hd.mk h3
      clear h3 y0 y1 y2 y3 y4 y5 y6 yr yl yrl
      go_wp2_with fail
      go_end0
      rw [HR.out, if_neg (fun e => e.1 HZ.out)]
      exact ⟨rfl, H3.out.fin⟩
    · have HZ := Hd.mk h0
      have hq : errOf t.1 = .iface 29 (.int .i64 t.1) := if_neg h0
      rw [hq]
      clear h0 hq
      go_wp2_with fail
      refine (HTS.out _ H2.out).mono ?_
      rintro e w3 ⟨rfl, h3⟩
      have H3 := Hd.mk h3
      clear h3 y0 y1 y2 y3 y4 y5 y6 yr yl yrl
      by_cases h8 : t.1 = 8
      · have H8 := Hd.mk h8
        rw [h8]
        clear h8
        go_wp2_with fail
        refine (tell_calls (.no 8) H3.out.hdl).mono ?_
        rintro e w4 ⟨rfl, hb4⟩
        have HB4 := Hd.mk hb4
        clear hb4
        go_wp2_with fail
        go_end0
        rw [HR.out, if_neg (fun e => e.2 H8.out)]
        exact ⟨rfl, H3.out.fin.then_below HB4.out⟩
      · have H8 := Hd.mk h8
        have hq8 : (t.1 == (8 : Int)) = false := by rw [beq_eq_false_iff_ne]; exact h8
        clear h8
        go_wp2_with fail
        refine (tell_calls (.no t.1) H3.out.hdl).mono ?_
        rintro e w4 ⟨rfl, hb4⟩
        have H4 := Hd.mk ((H3.out.below hb4).below (ex_drew (Below.refl _ _)))
        have hbx4 := (H3.out.below hb4).box
        rw [HQ.out] at hbx4
        have HBX4 := Hd.mk (BX7.of (ra := r.a) (sp := .pointer (some ⟨r.s.a, 0, none⟩)) (hbx4.drew_') (H3.out.below hb4).ptr.1)
        have hrl : r.a < w4.heap.size := (H3.out.below hb4).ptr.2
        have hbl : w.heap.size < w4.heap.size := hbx4.lt
        clear hb4 hbx4
        go_upto_region 7 with fail
        go_region_held3 (fun w' => BX7 w.heap.size r.a (.pointer (some ⟨r.s.a, 0, none⟩)) (.int .i64 1) (.int .i64 (k : Int)) (.int .i64 rev) (.int .i64 id) (.int .i64 who) (.int .i64 eid) (.slice A op.length ca) w')
          (first | exact HBX5.out | exact HBX4.out | assumption)
          (first
            | (go_at_call 15; refine (HRV.out _ H4.out).mono ?_; rintro e w5 ⟨rfl, rfl⟩)
            | (go_at_call 83; refine (HSD.out _ H4.out).mono ?_; rintro e w5 ⟨rfl, h5⟩; have H5 := Hd.mk h5; have hbx5 := h5.box; rw [HQ.out] at hbx5; have HBX5 := Hd.mk (BX7.of (ra := r.a) (sp := .pointer (some ⟨r.s.a, 0, none⟩)) hbx5 h5.ptr.1); clear h5 hbx5))
        all_goals
          go_wp2_with fail
          go_end0
          rw [HR.out, if_pos ⟨HZ.out, H8.out⟩]
          exact ⟨rfl, H5.out.fin⟩
end
end Go.Proofs.YtdgdajnbkfmijaaGreatDoor
/- A room's Send, Lose, Twice. -/
namespace Go.Proofs.YtdgdajnbkfmijaaGreatDoor
open Go.RowKit Go.Sort
set_option maxRecDepth 100000
theorem RmR.pk_at {F : Nat → Prop} {w : World} {r : RP} {R : RM} (h : RmR w F r R) {i : Nat} {p : PK} (hp : R.way[i]? = some p) : ∃ v, r.L[i]? = some (p, v) ∧ OpO F w v p.en.op := by
  have h1 := h.way
  rw [← h1, List.getElem?_map] at hp
  cases hx : r.L[i]? with
  | none => rw [hx] at hp; cases hp
  | some x =>
    rw [hx] at hp
    obtain ⟨q, v⟩ := x
    cases hp
    exact ⟨v, rfl, h.ops _ (List.mem_of_getElem? hx)⟩
section
attribute [local go_sem] add_mk
variable {F : Nat → Prop} {w : World} {r : RP} {R : RM} {N B : Int}
set_option maxHeartbeats 4000000 in
theorem rmsend_calls {k : Nat} {C : CV} (h : RmR w F r R) (hb : RMb N B R) (_hN : N ≤ 1000000) (hB : B ≤ 800000000) (hC : R.cl[k]? = some C) :
    Calls Tryz.prog 38 #[.pointer (some ⟨r.a, 0, none⟩), .int .i64 (k : Int)] w fun e w' => e = .returned .nilIface ∧ RmS F r (R.asks k) w w' := by
  obtain ⟨c, hc, hcr⟩ := h.get hC
  have hck := hb.ok.cl k C hC
  have HCL := Hd.mk (rmclient_calls h hc)
  have hlost : -1000000000 ≤ R.lost ∧ R.lost ≤ 1000000000 := by have := hb.l0; have := hb.bd; omega
  have hwl : C.way.length ≤ 1000000 := by
    cases hh : C.has
    · rw [(hck.ok.no hh).2.1]; simp
    · obtain ⟨X, hX, hp, -⟩ := hck.ok.yes hh
      have := parts_le (fun p hp => (hX.arg p hp).1)
      have := hX.sizes.1
      have := hck.ok.sz
      omega
  have HAS := Hd.mk (casks_calls hcr hwl)
  have HL := Hd.mk h
  have HA : Hd (R.asks k = R.send (C.asks k)) := ⟨by unfold RM.asks; rw [hC]⟩
  have HFL := Hd.mk h.flt
  have HLO := Hd.mk hlost
  clear h hb hck hcr hlost hwl
  cases hh : C.has
  · have HP := Hd.mk (CV.asks_no hh k)
    have HH := Hd.mk hh
    clear hh
    go_enter Tryz.func38, Tryz.ntmps38
    go_wp2_with (first
      | (go_at_call 27; refine HCL.out.mono ?_; rintro e w1 ⟨rfl, rfl⟩)
      | (go_at_call 82; refine HAS.out.mono ?_; rintro e w2 ⟨hb2, h2, -⟩; obtain rfl := h2 HH.out; have HB2 := Hd.mk hb2; clear hb2 h2)
      | (go_at_call 83; refine (send_calls (p := ⟨2, k, C.rev, 0, noEn⟩) (v := .slice none 0 0) (HL.out.below HB2.out) (OpO.nil _ _) HLO.out).mono ?_; rintro e w3 ⟨rfl, h3⟩; have H3 := Hd.mk h3; clear h3))
    go_ret
    rw [HA.out, HP.out]
    exact ⟨rfl, RmS.from_below HL.out HB2.out H3.out⟩
  · have HP := Hd.mk (CV.asks_yes hh k)
    have HH := Hd.mk hh
    clear hh
    go_enter Tryz.func38, Tryz.ntmps38
    go_wp2_with (first
      | (go_at_call 27; refine HCL.out.mono ?_; rintro e w1 ⟨rfl, rfl⟩)
      | (go_at_call 82; refine HAS.out.mono ?_; rintro e w2 ⟨hb2, -, h2⟩; obtain ⟨v2, rfl, hs2, hf2⟩ := h2 HH.out; have HB2 := Hd.mk hb2; have HO2 := Hd.mk (OpO.frs hs2 hf2 HFL.out); obtain ⟨A2, c2, rfl, -⟩ := hs2; clear hb2 h2 hf2)
      | (go_at_call 83; refine (send_calls (p := ⟨1, k, C.rev, C.id, ⟨k, C.id, C.way⟩⟩) (v := .slice A2 C.way.length c2) (HL.out.below HB2.out) HO2.out HLO.out).mono ?_; rintro e w3 ⟨rfl, h3⟩; have H3 := Hd.mk h3; clear h3))
    go_ret
    rw [HA.out, HP.out]
    exact ⟨rfl, RmS.from_below HL.out HB2.out H3.out⟩
/-- A packet is taken out of the row. -/
theorem RmR.outs {w3 : World} {i g cap : Nat} (h : RmR w F r R) (hv : r.vw = .slice (some ⟨g, 0, none⟩) R.way.length cap) (hi : i < R.way.length)
    (hd : w3.ownsRow 0 158 7 (.slice (some ⟨g, 0, none⟩) (R.way.length - 1) cap) (R.way.length - 1) ((pks r.L).take (i * 7) ++ (pks r.L).drop ((i + 1) * 7))) (ho : Only (fun j => j = g) w w3) : RmS F r (R.out i) w (w3.setCell ⟨r.a, 2, none⟩ (.slice (some ⟨g, 0, none⟩) (R.way.length - 1) cap)) := by
  have hg : r.vw.ownBlock = some g := by rw [hv]; rfl
  have hag : r.a ≠ g := fun e => h.a_w (by rw [hg, e])
  have hO3 : Only (fun j => j = r.a) w3 (w3.setCell ⟨r.a, 2, none⟩ (.slice (some ⟨g, 0, none⟩) (R.way.length - 1) cap)) := (Only.refl (fun j => j = r.a) w3).setCell (p := ⟨r.a, 2, none⟩) (.inl rfl) _
  have hwl := h.wl
  have hl : (r.L.eraseIdx i).length = R.way.length - 1 := by rw [List.length_eraseIdx, if_pos (by omega), hwl]
  have he : r.L.eraseIdx i = r.L.take i ++ r.L.drop (i + 1) := List.eraseIdx_eq_take_drop_succ _ _
  have hx : pks (r.L.eraseIdx i) = (pks r.L).take (i * 7) ++ (pks r.L).drop ((i + 1) * 7) := by rw [he, pks_append, pks_take, pks_drop]
  have hm : (r.L.eraseIdx i).map Prod.fst = R.way.eraseIdx i := by rw [he, List.map_append, List.map_take, List.map_drop, h.way, List.eraseIdx_eq_take_drop_succ]
  have hs := h.ways (v' := .slice (some ⟨g, 0, none⟩) (R.way.length - 1) cap) (L' := r.L.eraseIdx i) (lost' := R.lost) ((ho.mono (fun j _ e => .inr (by rw [hg, e]))).trans (hO3.mono (fun j _ e => .inl e)))
    ((h.blk.only ho hag).set_ 2 _) (by rw [hl, hx]; exact own_only hd hO3 (fun k hk => by cases hk; exact fun e => hag e.symm)) (fun k hk => .inl (by rw [hg]; exact hk)) (fun x hx => h.ops x (List.mem_of_mem_eraseIdx hx))
  rw [hm] at hs
  exact hs
theorem RmR.one_cells (h : RmR w F r R) : ∀ u ∈ pks r.L, u.oneCell' = true := by
  intro u hu
  obtain ⟨x, hx, hu⟩ := List.mem_flatMap.1 hu
  obtain ⟨A, c, e, -⟩ := (h.ops x hx).1
  exact pk_one (v := x.2) (by rw [e]; rfl) x.1 u hu
/-- The row of what is under way, where something is. -/
theorem RmR.row (h : RmR w F r R) {i : Nat} (hi : i < R.way.length) : ∃ g cap, r.vw = .slice (some ⟨g, 0, none⟩) R.way.length cap ∧ g ≠ r.a ∧ w.ownsRow 0 158 7 (.slice (some ⟨g, 0, none⟩) R.way.length cap) R.way.length (pks r.L) := by
  have hown := h.own
  rw [h.wl] at hown
  rcases hown.2 with ⟨e, e2⟩ | ⟨g, cap, cur, hv, -⟩
  · omega
  · refine ⟨g, cap, hv, fun e => h.a_w (by rw [hv, ← e]; rfl), ?_⟩
    rw [hv] at hown
    exact hown
set_option maxHeartbeats 4000000 in
theorem rmlose_calls {i : Nat} (h : RmR w F r R) (hi : i < R.way.length) (hm : R.way.length ≤ 400) :
    Calls Tryz.prog 42 #[.pointer (some ⟨r.a, 0, none⟩), .int .i64 (i : Int)] w fun e w' => e = .returned .nilIface ∧ RmS F r (R.out i) w w' := by
  obtain ⟨z0, z1, z2, z3⟩ := four_cells h.blk
  have fz := h.blk.frozen
  have lt := h.blk.lt
  obtain ⟨g, cap, hv, hga, hown⟩ := h.row hi
  rw [hv] at z2
  have HD := Hd.mk (delete_calls hown h.one_cells hi)
  have HV := Hd.mk hv
  have HL := Hd.mk h
  have HGA := Hd.mk hga
  have HI := Hd.mk hi
  clear h hown hv hga
  go_enter Tryz.func42, Tryz.ntmps42
  go_wp2_with fail
  refine HD.out.mono ?_
  rintro e w3 ⟨rfl, ho3, hO3⟩
  have hbk3 := HL.out.blk.only hO3 HGA.out.symm
  obtain ⟨y0, y1, y2, y3⟩ := four_cells hbk3
  have yf := hbk3.frozen
  have yl := hbk3.lt
  rw [HV.out] at y2
  have HO3 := Hd.mk (And.intro ho3 hO3)
  clear ho3 hO3 hbk3 z0 z1 z2 z3 fz lt
  go_wp2_with fail
  go_ret
  exact ⟨rfl, HL.out.outs HV.out HI.out HO3.out.1 HO3.out.2⟩
set_option maxHeartbeats 4000000 in
theorem rmtwice_calls {i : Nat} {p : PK} (h : RmR w F r R) (hp : R.way[i]? = some p) (_hm : R.way.length ≤ 400) (hl : -1000000000 ≤ R.lost ∧ R.lost ≤ 1000000000) :
    Calls Tryz.prog 44 #[.pointer (some ⟨r.a, 0, none⟩), .int .i64 (i : Int)] w fun e w' => e = .returned .nilIface ∧ RmS F r (R.again i) w w' := by
  obtain ⟨z0, z1, z2, z3⟩ := four_cells h.blk
  have hi := (List.getElem?_eq_some_iff.1 hp).1
  obtain ⟨g, cap, hv, hga, hown⟩ := h.row hi
  obtain ⟨v, hx, hop⟩ := h.pk_at hp
  have hlx := (List.getElem?_eq_some_iff.1 hx).1
  have hxe : r.L[i] = (p, v) := (List.getElem?_eq_some_iff.1 hx).2
  obtain ⟨b, o, cc, hv2, hb, c0, c1, c2, c3, c4, c5, c6⟩ := (Sl.of_own hown).pk hi hlx
  cases hv2
  rw [hxe] at c0 c1 c2 c3 c4 c5 c6
  rw [hv] at z2
  obtain ⟨A, ca, hvv, -⟩ := hop.sl
  subst hvv
  have HS := Hd.mk (send_calls h hop hl)
  unfold pkV at HS
  have HA : Hd (R.again i = R.send p) := ⟨by unfold RM.again; rw [hp]⟩
  dsimp only at c0 c1 c2 c3 c4 c5 c6
  rw [Nat.zero_add] at c0 c1 c2 c3 c4 c5 c6
  clear h hown hv hga hp hx hlx hxe hop
  go_enter Tryz.func44, Tryz.ntmps44
  go_wp2_with (go_at_call 83; refine HS.out.mono ?_; rintro e w3 ⟨rfl, h3⟩; have H3 := Hd.mk h3; clear h3)
  go_ret
  rw [HA.out]
  exact ⟨rfl, H3.out⟩
/-- Whatever packet comes. -/
theorem comes_calls {p : PK} {v : Value} {C : CV} {c : CP} (h : CmI w F r R p v C c N) (hcl : R.cl.length ≤ 1000000) :
    Calls Tryz.prog 87 #[.pointer (some ⟨r.a, 0, none⟩), pkV p v] w fun e w' => e = .returned (.tuple #[]) ∧ RmS F r (R.comes p) w w' := by
  rcases h.pk.kd with hk | hk | hk | hk
  · exact comes_ask h hk hcl
  · exact comes_look h hk
  · exact comes_told h hk
  · exact comes_refuse h hk
set_option maxHeartbeats 8000000 in
theorem rmdeliver_calls {i : Nat} (h : RmR w F r R) (hb : RMb N B R) (hN : N ≤ 1000000) (hB : B ≤ 700000000) (hi : i < R.way.length) (hcl : R.cl.length ≤ 1000000) :
    Calls Tryz.prog 41 #[.pointer (some ⟨r.a, 0, none⟩), .int .i64 (i : Int)] w fun e w' => e = .returned .nilIface ∧ RmS F r (R.deliver i) w w' := by
  obtain ⟨p, hp⟩ : ∃ p, R.way[i]? = some p := ⟨_, List.getElem?_eq_getElem hi⟩
  obtain ⟨z0, z1, z2, z3⟩ := four_cells h.blk
  have fz := h.blk.frozen
  have lt := h.blk.lt
  obtain ⟨g, cap, hv, hga, hown⟩ := h.row hi
  have hm := hb.ok.wl
  obtain ⟨v, hx, hop⟩ := h.pk_at hp
  have hlx := (List.getElem?_eq_some_iff.1 hx).1
  have hxe : r.L[i] = (p, v) := (List.getElem?_eq_some_iff.1 hx).2
  obtain ⟨b, o, cc, hv2, hbb, c0, c1, c2, c3, c4, c5, c6⟩ := (Sl.of_own hown).pk hi hlx
  cases hv2
  rw [hxe] at c0 c1 c2 c3 c4 c5 c6
  rw [hv] at z2
  obtain ⟨A, ca, hvv, -⟩ := hop.sl
  subst hvv
  obtain ⟨C, hC, hpk⟩ := hb.ok.way p (List.mem_of_getElem? hp)
  obtain ⟨c, hc, -⟩ := h.get hC
  have hbd := hb.bd
  have hl0 := hb.l0
  have HD := fun W hb => Hd.mk (delete_calls (own_only hown (Only.of_below (S := fun _ => False) (hb : Below w.heap.size w W)) (fun _ _ e => e)) h.one_cells hi)
  have HR : Hd (R.deliver i = (R.out i).comes p) := ⟨by unfold RM.deliver; rw [hp]⟩
  have HCM : Hd (∀ W r1 F1, RmR W F1 r1 (R.out i) → r1.cs[p.k]?.map CP.a = some c.a → OpO F1 W (.slice A p.en.op.length ca) p.en.op → Calls Tryz.prog 87 #[.pointer (some ⟨r1.a, 0, none⟩), pkV p (.slice A p.en.op.length ca)] W fun e w' => e = .returned (.tuple #[]) ∧ RmS F1 r1 ((R.out i).comes p) W w') :=
    ⟨fun W r1 F1 h1 hc1 ho => by
      obtain ⟨c1, hc1', -⟩ := h1.get (k := p.k) (C := C) hC
      exact comes_calls ⟨h1, ho, hb.ok.out i, hN, by have : (R.out i).srv = R.srv := rfl; rw [this]; omega, by have : (R.out i).lost = R.lost := rfl; rw [this]; omega, hC, hc1', hpk⟩ hcl⟩
  have HC := Hd.mk hc
  have HV := Hd.mk hv
  have HL := Hd.mk h
  have HGA := Hd.mk hga
  have HI := Hd.mk hi
  have HOP := Hd.mk hop
  have hgl : g < w.heap.size := hbb
  dsimp only at c0 c1 c2 c3 c4 c5 c6
  rw [Nat.zero_add] at c0 c1 c2 c3 c4 c5 c6
  unfold pkV at HCM
  clear h hown hv hga hp hx hlx hxe hop hC hpk hc hb hbd hl0
  go_enter Tryz.func41, Tryz.ntmps41
  go_wp2_with fail
  refine (HD _ (ex_alloc (Below.refl _ _) _)).out.mono ?_
  rintro e w3 ⟨rfl, ho3, hO3⟩
  have hb0 : Below w.heap.size w (w.alloc (.cells #[.int .i64 p.kind, .int .i64 (p.k : Int), .int .i64 p.rev, .int .i64 p.id, .int .i64 p.en.who, .int .i64 p.en.id, .slice A p.en.op.length ca] 158)) := ex_alloc (Below.refl _ _) _
  have HB0 := Hd.mk hb0
  have hbk3 := (HL.out.below hb0).blk.only hO3 HGA.out.symm
  have hbx3 := (Blk.new w 158 #[.int .i64 p.kind, .int .i64 (p.k : Int), .int .i64 p.rev, .int .i64 p.id, .int .i64 p.en.who, .int .i64 p.en.id, .slice A p.en.op.length ca]).only hO3 (fun e => by omega)
  have hs3 := (HL.out.below hb0).outs HV.out HI.out ho3 hO3
  have HS3 := Hd.mk hs3
  obtain ⟨y0, y1, y2, y3⟩ := four_cells hbk3
  obtain ⟨x0, x1, x2, x3, x4, x5, x6⟩ := seven_cells hbx3
  have yf := hbk3.frozen
  have yl := hbk3.lt
  have xl := hbx3.lt
  have hne : r.a ≠ w.heap.size := by omega
  have hne2 : w.heap.size ≠ r.a := by omega
  rw [HV.out] at y2
  clear ho3 hO3 hbk3 hbx3 hs3 hb0 z0 z1 z2 z3 fz c0 c1 c2 c3 c4 c5 c6
  obtain ⟨r4, F4, ha4, hcs4, hR4, ho4, hoF4, hgr4, hnx4⟩ := RmS.next (HL.out.below HB0.out) HS3.out
  have hcc : r4.cs[p.k]?.map CP.a = some c.a := by
    rw [← List.getElem?_map, hcs4, List.getElem?_map, HC.out]
    rfl
  have HCL := Hd.mk (HCM.out _ r4 F4 hR4 hcc ((HOP.out.below HB0.out (Grow.refl _ _)).only hoF4 hgr4))
  rw [ha4.1] at HCL
  have HNX := Hd.mk hnx4
  clear ha4 hcs4 hR4 ho4 hoF4 hgr4 hnx4 hcc
  go_wp2_with (go_at_call 87; refine HCL.out.mono ?_; rintro e w5 ⟨rfl, h5⟩; have H5 := Hd.mk h5; clear h5)
  go_ret
  rw [HR.out]
  exact ⟨rfl, RmS.from_below HL.out HB0.out (HNX.out _ _ H5.out)⟩
end
end Go.Proofs.YtdgdajnbkfmijaaGreatDoor
