/- Several texts of the proof, one behind the other: SrvA, SrvB, SrvC, SrvD, CliA, CliB, CliC. -/
import Derived.Test.YtdgdajnbkfmijaaGreatDoorMRoomMeets38
import Derived.Test.YtdgdajnbkfmijaaGreatDoorMRoomMeets24
import Derived.Test.YtdgdajnbkfmijaaGreatDoorMRoomMeets1
import Derived.Test.YtdgdajnbkfmijaaGreatDoorMRoomMeets43
import Derived.Lib.SliceRun
import Derived.Test.YtdgdajnbkfmijaaGreatDoorMRoomMeets16
import Derived.Carry
import Derived.ChangeArms
import Derived.Deep.CutBlock
import Derived.Deep.CutRange
import Derived.Deep.Slices
import Derived.Laws.EntriesVeiled
import Derived.Laws.MakeOwn
import Derived.Lib.Bytealg
import Derived.Lib.ConvBytes
import Derived.Lib.QuietBelow
import Derived.Lib.SlicesDelete
import Derived.Maps.OwnOps
import Derived.Maps.OwnSet
import Derived.OpenShut
import Derived.ProofKit
import Derived.Sort.CutIn
import Derived.Stop.RegionWithIn
import Derived.Test.YtdgdajnbkfmijaaGreatDoorMRoomMeets14
import Derived.Test.YtdgdajnbkfmijaaGreatDoorMRoomMeets13
import Derived.Test.YtdgdajnbkfmijaaGreatDoorMRoomMeets21
import Derived.Test.YtdgdajnbkfmijaaGreatDoorMRoomMeets32
import Derived.Deep.DeepCutAuto
import Derived.Deep.RegionWith
import Derived.Test.YtdgdajnbkfmijaaGreatDoorMRoomMeets41
import Derived.Test.YtdgdajnbkfmijaaGreatDoorMRoomMeets36
import Derived.Test.YtdgdajnbkfmijaaGreatDoorMRoomMeets31
/- Entries in memory; slices.Clone of an operation and of entries. -/
namespace Go.Proofs.YtdgdajnbkfmijaaGreatDoor
open Go.RowKit
set_option maxRecDepth 100000
def ecv (x : EN × Value) : List Value := [.int .i64 x.1.who, .int .i64 x.1.id, x.2]
def ens (L : List (EN × Value)) : List Value := L.flatMap ecv
theorem ens_append (a b : List (EN × Value)) : ens (a ++ b) = ens a ++ ens b := by unfold ens; rw [List.flatMap_append]
theorem ens_one (x : EN × Value) : ens [x] = ecv x := by simp [ens]
theorem ens_at {L : List (EN × Value)} {k : Nat} (hk : k < L.length) : (ens L)[k * 3]? = some (.int .i64 L[k].1.who) ∧ (ens L)[k * 3 + 1]? = some (.int .i64 L[k].1.id) ∧ (ens L)[k * 3 + 2]? = some L[k].2 := by
  induction L generalizing k with
  | nil => simp at hk
  | cons x L ih =>
    have e : ens (x :: L) = ecv x ++ ens L := by simp [ens]
    rw [e]
    cases k with
    | zero => simp [ecv]
    | succ k =>
      obtain ⟨h1, h2, h3⟩ := ih (k := k) (by simpa using hk)
      have hl : (ecv x).length = 3 := rfl
      simp only [List.getElem_cons_succ]
      refine ⟨?_, ?_, ?_⟩
      · rw [List.getElem?_append_right (by omega), hl, ← h1]; congr 1; omega
      · rw [List.getElem?_append_right (by omega), hl, ← h2]; congr 1; omega
      · rw [List.getElem?_append_right (by omega), hl, ← h3]; congr 1; omega
theorem ens_drop (L : List (EN × Value)) (k : Nat) : ens (L.drop k) = (ens L).drop (k * 3) := by
  induction L generalizing k with
  | nil => simp [ens]
  | cons x L ih =>
    cases k with
    | zero => simp
    | succ k =>
      have e : ens (x :: L) = Value.int .i64 x.1.who :: Value.int .i64 x.1.id :: x.2 :: ens L := by simp [ens, ecv]
      rw [List.drop_succ_cons, ih, e, show (k + 1) * 3 = k * 3 + 1 + 1 + 1 from by omega]
      simp only [List.drop_succ_cons]
/-- An operation that lies outside of what may turn. -/
def OpO (F : Nat → Prop) (w : World) (v : Value) (l : List PT) : Prop := Sl w 3 v l.length (opv l) ∧ ∀ ad n c, v = .slice (some ad) n c → 0 < n → ¬ F ad.block
def EnO (F : Nat → Prop) (w : World) (L : List (EN × Value)) : Prop := ∀ x ∈ L, OpO F w x.2 x.1.op
section
variable {F F' : Nat → Prop} {w w' : World} {v : Value} {l : List PT}
/-- What may turn then: what might ahead, and what is new. -/
def Grow (F F' : Nat → Prop) (n : Nat) : Prop := ∀ k, F' k → F k ∨ n ≤ k
theorem Grow.refl (F : Nat → Prop) (n : Nat) : Grow F F n := fun _ h => .inl h
theorem Grow.trans {F F' F'' : Nat → Prop} {n m : Nat} (h : Grow F F' n) (k : Grow F' F'' m) (hm : n ≤ m) : Grow F F'' n := fun i hi => (k i hi).elim (h i) (fun e => .inr (Nat.le_trans hm e))
theorem Grow.mono {F F' : Nat → Prop} {n m : Nat} (h : Grow F F' m) (hm : n ≤ m) : Grow F F' n := fun i hi => (h i hi).imp_right (Nat.le_trans hm)
theorem OpO.sl (h : OpO F w v l) : Sl w 3 v l.length (opv l) := h.1
theorem OpO.only (h : OpO F w v l) (ho : Only F w w') (hF : Grow F F' w.heap.size) : OpO F' w' v l := by
  refine ⟨h.1.only ho (fun A c e hn => h.2 A _ c e hn), fun ad n c e hn hF' => ?_⟩
  rcases hF _ hF' with h1 | h1
  · exact h.2 ad n c e hn h1
  · obtain ⟨A, c', e', -, -, -, -, h5⟩ := h.1
    rw [e'] at e
    cases e
    obtain ⟨ad', e2, hb, -⟩ := h5 hn
    cases e2
    omega
theorem OpO.below (h : OpO F w v l) (hb : Below w.heap.size w w') (hF : Grow F F' w.heap.size) : OpO F' w' v l := h.only (Only.of_below hb) hF
theorem OpO.sub (h : OpO F w v l) (hF : ∀ k, F' k → F k) : OpO F' w v l := ⟨h.1, fun ad n c e hn hk => h.2 ad n c e hn (hF _ hk)⟩
theorem OpO.frs {B : Nat} (h : Sl w 3 v l.length (opv l)) (hf : Frs B v) (hF : ∀ k, F k → k < B) : OpO F w v l := ⟨h, fun ad n c e _ hk => by have := hf ad n c e; have := hF _ hk; omega⟩
theorem OpO.nil (F : Nat → Prop) (w : World) : OpO F w (.slice none 0 0) [] := ⟨Sl.nil w 3, fun ad n c e => by cases e⟩
theorem EnO.only {L : List (EN × Value)} (h : EnO F w L) (ho : Only F w w') (hF : Grow F F' w.heap.size) : EnO F' w' L := fun x hx => (h x hx).only ho hF
/-- An operation is three cells a part: of one cell each. -/
theorem opv_one' (l : List PT) : ∀ u ∈ opv l, u.oneCell' = true := by
  intro u hu
  unfold opv at hu
  obtain ⟨p, -, hp⟩ := List.mem_flatMap.1 hu
  simp only [PT.cells, List.mem_cons, List.not_mem_nil, or_false] at hp
  rcases hp with rfl | rfl | rfl <;> rfl
end
/-- A row of nothing that is new. -/
theorem own_none {w : World} {t : TypeId} {size : Nat} : (w.alloc (.cells #[] t)).ownsRow w.heap.size t size (.slice (some ⟨w.heap.size, 0, none⟩) 0 0) 0 [] :=
  ⟨by simp, .inr ⟨w.heap.size, 0, #[], rfl, Nat.le_refl _, heap_alloc_new w _, Nat.le_refl _, by unfold maxLen; omega, by simp, by simp⟩⟩
/-- 's == nil'. -/
theorem eq_op_nil (w : World) (A : Option Addr) (n c : Nat) : (binOp .eql 36 (.slice A n c) (.slice none 0 0)).run Tryz.prog w = .ok (.bool A.isNone) w := Lib.run_eql_slice_nil w _ _ A n c 0 0 Tryz.underlying36
theorem clone_calls {l : List PT} {v : Value} {n : Nat} {w : World} (hsl : Sl w 3 v n (opv l)) (hn : n ≤ 1000000) :
    Calls Tryz.prog 57 #[v] w fun e w' => (∃ v', e = .returned v' ∧ Sl w' 3 v' n (opv l) ∧ Frs w.heap.size v') ∧ Below w.heap.size w w' := by
  have HSL := Hd.mk hsl
  obtain ⟨A, c, rfl, -, -, -, hA, h5⟩ := hsl
  cases A with
  | none =>
    obtain rfl := hA rfl
    obtain rfl : n = 0 := by
      rcases Nat.eq_zero_or_pos n with h | h
      · exact h
      · obtain ⟨ad, e, -⟩ := h5 h; cases e
    clear hA h5
    have heq := eq_op_nil
    go_enter Tryz.func57, Tryz.ntmps57
    go_wp2_with fail
    go_ret
    exact ⟨⟨_, rfl, HSL.out, Frs.nil _⟩, Below.refl _ _⟩
  | some ad =>
    clear hA h5
    have heq := eq_op_nil
    go_enter Tryz.func57, Tryz.ntmps57
    go_wp2_with (at_builtin; refine append_sl' el_part (opv l) (.slice (some ad) n c) own_none (HSL.out.below (ex_alloc (Below.refl _ _) _)) rfl rfl rfl rfl (opv_one' l) (by unfold maxLen; omega) (by omega) (by simp) ?_; intro v9 w9 hown9 hbel9 hgr9 hnew9; rw [Nat.zero_add, List.nil_append] at hown9; have HO9 := Hd.mk hown9; obtain ⟨A9, k9, rfl⟩ := own_form hown9; have HB9 := Hd.mk hbel9; clear hown9 hbel9 hgr9 hnew9)
    go_ret
    exact ⟨⟨_, rfl, Sl.of_own HO9.out, Frs.of_own HO9.out⟩, (ex_alloc (Below.refl _ _) _).trans HB9.out⟩
theorem el_entry : El Tryz.prog 54 120 3 40 := El.mk' Tryz.underlying54 (by kernel_rfl) (by decide)
theorem ens_one' {w : World} {F : Nat → Prop} {L : List (EN × Value)} (h : EnO F w L) : ∀ u ∈ ens L, u.oneCell' = true := by
  intro u hu
  unfold ens at hu
  obtain ⟨x, hx, hp⟩ := List.mem_flatMap.1 hu
  obtain ⟨A, c, e, -⟩ := (h x hx).1
  simp only [ecv, List.mem_cons, List.not_mem_nil, or_false] at hp
  rcases hp with rfl | rfl | rfl
  · rfl
  · rfl
  · rw [e]; rfl
end Go.Proofs.YtdgdajnbkfmijaaGreatDoor
/- A server in memory; Rev, Text, Last, Log. -/
namespace Go.Proofs.YtdgdajnbkfmijaaGreatDoor
open Go.RowKit Go.Sort
set_option maxRecDepth 100000
/-- Where a server lies. -/
structure SP where
  a : Nat
  p : Nat
  t : RT
  vl : Value
  m : Nat
  k : Nat
  L : List (EN × Value)
/-- What of it may turn. -/
def SP.F (s : SP) (j : Nat) : Prop := j = s.a ∨ s.vl.ownBlock = some j ∨ j = s.m
/-- A server in memory; F: all that may turn, of it and of others. -/
structure SrvR (w : World) (F : Nat → Prop) (s : SP) (S : SV) : Prop where
  ok : SVok S
  blk : Blk w s.a 106 #[.pointer (some ⟨s.p, 0, none⟩), s.vl, .map (some s.m)]
  rope : AtR w s.p s.t
  good : Good s.t
  doc : S.doc = U.encs s.t.runes
  rp : ¬ F s.p ∧ ∀ b ∈ s.t.blocks, ¬ F b
  own : w.ownsRow 0 120 3 s.vl s.L.length (ens s.L)
  log : s.L.map Prod.fst = S.log
  ops : EnO F w s.L
  map : Mp w s.m s.k S.last
  tk : s.k ≤ S.tk
  sub : ∀ j, s.F j → F j
  flt : ∀ j, F j → j < w.heap.size
section
variable {w w' : World} {F F' G : Nat → Prop} {s : SP} {S : SV}
theorem AtR.only {S : Nat → Prop} {p : Nat} {t : RT} (h : AtR w p t) (ho : Only S w w') (hp : ¬ S p) (hs : ∀ b ∈ t.blocks, ¬ S b) : AtR w' p t := ⟨h.blk.only ho hp, h.tree.only ho hs, h.out⟩
theorem SrvR.len (h : SrvR w F s S) : s.L.length = S.log.length := by rw [← h.log, List.length_map]
/-- It stays what it is while other things turn. -/
theorem SrvR.only (h : SrvR w F s S) (ho : Only G w w') (hG : ∀ j, G j → F j) (hs : ∀ j, s.F j → ¬ G j) (hF : Grow F F' w.heap.size) (hs' : ∀ j, s.F j → F' j) (hl : ∀ j, F' j → j < w'.heap.size) : SrvR w' F' s S := by
  have hnew : ∀ b, b < w.heap.size → ¬ F b → ¬ F' b := fun b hb h1 h2 => (hF b h2).elim h1 (fun e => by omega)
  exact ⟨h.ok, h.blk.only ho (hs _ (.inl rfl)), h.rope.only ho (fun e => h.rp.1 (hG _ e)) (fun b hb e => h.rp.2 b hb (hG _ e)), h.good, h.doc,
    ⟨hnew _ h.rope.blk.lt h.rp.1, fun b hb => hnew b (h.rope.tree.lt b hb) (h.rp.2 b hb)⟩, own_only h.own ho (fun k hk => hs _ (.inr (.inl hk))), h.log,
    h.ops.only (ho.mono (fun k _ => hG k)) hF, h.map.only ho (hs _ (.inr (.inr rfl))), h.tk, hs', hl⟩
theorem SrvR.below (h : SrvR w F s S) (hb : Below w.heap.size w w') : SrvR w' F s S := h.only (G := fun _ => False) (Only.of_below hb) (fun _ e => e.elim) (fun _ _ e => e) (Grow.refl _ _) h.sub (fun j hj => Nat.lt_of_lt_of_le (h.flt j hj) hb.size)
theorem SrvR.lt (h : SrvR w F s S) : ∀ j, s.F j → j < w.heap.size := by
  rintro j (rfl | e | rfl)
  · exact h.blk.lt
  · exact (h.own.lt j e).2
  · exact h.map.lt
/-- Its parts lie apart. -/
theorem SrvR.apart (h : SrvR w F s S) : (∀ k, s.vl.ownBlock = some k → k ≠ s.a ∧ k ≠ s.m) ∧ s.a ≠ s.m := by
  obtain ⟨es, clock, hm⟩ := h.map.cap
  have hb := h.blk
  unfold Blk at hb
  refine ⟨fun k hk => ?_, fun e => ?_⟩
  · rcases h.own.2 with ⟨e, -⟩ | ⟨g, cap, cur, e, -, hg, -⟩
    · rw [e] at hk; cases hk
    · rw [e] at hk
      cases hk
      refine ⟨fun e => ?_, fun e => ?_⟩
      · have e2 : g = s.a := e
        rw [e2, hb] at hg
        simp at hg
      · have e2 : g = s.m := e
        rw [e2, hm] at hg
        cases hg
  · rw [e, hm] at hb
    cases hb
theorem three_cells {w : World} {g : Nat} {ty : TypeId} {a b c : Value} (h : Blk w g ty #[a, b, c]) : w.cell? ⟨g, 0, none⟩ = some a ∧ w.cell? ⟨g, 1, none⟩ = some b ∧ w.cell? ⟨g, 2, none⟩ = some c := by
  have z0 := h.cell 0
  have z1 := h.cell 1
  have z2 := h.cell 2
  simp only [List.getElem?_toArray, List.getElem?_cons_zero, List.getElem?_cons_succ] at z0 z1 z2
  exact ⟨z0, z1, z2⟩
/-- Element k of the log, its three cells. -/
theorem Sl.entry {L : List (EN × Value)} {v : Value} {n : Nat} (h : Sl w 3 v n (ens L)) {k : Nat} (hk : k < n) (hl : k < L.length) : ∃ b o c, v = .slice (some ⟨b, o, none⟩) n c ∧ b < w.heap.size ∧
    w.cell? ⟨b, o + k * 3, none⟩ = some (.int .i64 L[k].1.who) ∧ w.cell? ⟨b, o + k * 3 + 1, none⟩ = some (.int .i64 L[k].1.id) ∧ w.cell? ⟨b, o + k * 3 + 2, none⟩ = some L[k].2 := by
  obtain ⟨A, c, rfl, h2, _, _, _, h5⟩ := h
  obtain ⟨ad, rfl, hb, hc⟩ := h5 (by omega)
  obtain ⟨h1, h2, h3⟩ := ens_at hl
  have c1 := hc _ _ h1
  have c2 := hc _ _ h2
  have c3 := hc _ _ h3
  obtain ⟨b, o, p⟩ := ad
  have hp : p = none := by
    have hz := hc 0 (.int .i64 (L[0]'(by omega)).1.who) (by have := (ens_at (L := L) (k := 0) (by omega)).1; simpa using this)
    have : (⟨b, o, p⟩ : Addr).add 0 = ⟨b, o, p⟩ := by unfold Addr.add; rfl
    rw [this] at hz
    cases p with
    | none => rfl
    | some x => unfold World.cell? at hz; split at hz <;> simp at hz
  subst hp
  simp only [add_mk] at c1 c2 c3
  exact ⟨b, o, c, rfl, hb, c1, by rw [← c2, Nat.add_assoc], by rw [← c3, Nat.add_assoc]⟩
end
theorem srev_calls {w : World} {F : Nat → Prop} {s : SP} {S : SV} (h : SrvR w F s S) : Calls Tryz.prog 15 #[.pointer (some ⟨s.a, 0, none⟩)] w fun e w' => e = .returned (.int .i64 (S.log.length : Int)) ∧ w' = w := by
  obtain ⟨z0, z1, z2⟩ := three_cells h.blk
  have hl := h.len
  obtain ⟨A, c, hv⟩ := own_form h.own
  rw [hv, hl] at z1
  clear h hl hv
  go_enter Tryz.func15, Tryz.ntmps15
  go_wp2_with fail
  go_ret
  exact ⟨rfl, rfl⟩
theorem stext_calls {w : World} {F : Nat → Prop} {s : SP} {S : SV} (h : SrvR w F s S) : Calls Tryz.prog 16 #[.pointer (some ⟨s.a, 0, none⟩)] w fun e w' => e = .returned (.string ⟨S.doc.toArray⟩) ∧ Below w.heap.size w w' := by
  obtain ⟨z0, z1, z2⟩ := three_cells h.blk
  have HT := Hd.mk (rtx_calls h.rope (by have := h.good.sz; omega))
  rw [← h.doc] at HT
  clear h
  go_enter Tryz.func16, Tryz.ntmps16
  go_wp2_with fail
  refine HT.out.mono ?_
  rintro e w1 ⟨rfl, hb⟩
  have HB := Hd.mk hb
  clear hb
  go_wp2_with fail
  go_ret
  exact ⟨rfl, HB.out⟩
theorem stext_rope {w : World} {F : Nat → Prop} {s : SP} {S : SV} (h : SrvR w F s S) : Calls Tryz.prog 55 #[.pointer (some ⟨s.p, 0, none⟩)] w fun e w' => e = .returned (.string ⟨S.doc.toArray⟩) ∧ Below w.heap.size w w' := by
  have := rtx_calls h.rope (by have := h.good.sz; omega)
  rwa [← h.doc] at this
theorem zero_last (w : World) : (zeroValue 115).run Tryz.prog w = .ok (.agg #[.int .i64 0, .int .i64 0]) w := by kernel_rfl
end Go.Proofs.YtdgdajnbkfmijaaGreatDoor
/- A server's Log: what it hands back is a copy. -/
namespace Go.Proofs.YtdgdajnbkfmijaaGreatDoor
open Go.RowKit Go.Sort
set_option maxRecDepth 100000
theorem eq_en_nil (w : World) (A : Option Addr) (n c : Nat) : (binOp .eql 54 (.slice A n c) (.slice none 0 0)).run Tryz.prog w = .ok (.bool A.isNone) w := Lib.run_eql_slice_nil w _ _ A n c 0 0 Tryz.underlying54
theorem clones_calls {L : List (EN × Value)} {v : Value} {n : Nat} {w : World} (hsl : Sl w 3 v n (ens L)) (h1 : ∀ u ∈ ens L, u.oneCell' = true) (hn : n ≤ 1000000) :
    Calls Tryz.prog 56 #[v] w fun e w' => (∃ v', e = .returned v' ∧ w'.ownsRow w.heap.size 120 3 v' n (ens L)) ∧ Below w.heap.size w w' := by
  have HSL := Hd.mk hsl
  have H1 := Hd.mk h1
  clear h1
  obtain ⟨A, c, rfl, h2, -, -, hA, h5⟩ := hsl
  cases A with
  | none =>
    obtain rfl := hA rfl
    obtain rfl : n = 0 := by
      rcases Nat.eq_zero_or_pos n with h | h
      · exact h
      · obtain ⟨ad, e, -⟩ := h5 h; cases e
    have hnil : ens L = [] := List.eq_nil_of_length_eq_zero (by simpa using h2)
    have HNIL := Hd.mk hnil
    clear hA h5 h2 hnil
    have heq := eq_en_nil
    go_enter Tryz.func56, Tryz.ntmps56
    go_wp2_with fail
    go_ret
    exact ⟨⟨_, rfl, by rw [HNIL.out]; exact World.ownsRow_nil _ _ _ _⟩, Below.refl _ _⟩
  | some ad =>
    clear hA h5 h2
    have heq := eq_en_nil
    go_enter Tryz.func56, Tryz.ntmps56
    go_wp2_with (at_builtin; refine append_sl' el_entry (ens L) (.slice (some ad) n c) own_none (HSL.out.below (ex_alloc (Below.refl _ _) _)) rfl rfl rfl rfl H1.out (by unfold maxLen; omega) (by omega) (by simp) ?_; intro v9 w9 hown9 hbel9 hgr9 hnew9; rw [Nat.zero_add, List.nil_append] at hown9; have HO9 := Hd.mk hown9; obtain ⟨A9, k9, rfl⟩ := own_form hown9; have HB9 := Hd.mk hbel9; clear hown9 hbel9 hgr9 hnew9)
    go_ret
    exact ⟨⟨_, rfl, HO9.out⟩, (ex_alloc (Below.refl _ _) _).trans HB9.out⟩
theorem ens_set {L : List (EN × Value)} {k : Nat} (hk : k < L.length) (v : Value) : (ens L).set (k * 3 + 2) v = ens (L.set k (L[k].1, v)) := by
  induction L generalizing k with
  | nil => simp at hk
  | cons x L ih =>
    have e : ∀ (y : EN × Value) (M : List (EN × Value)), ens (y :: M) = Value.int .i64 y.1.who :: Value.int .i64 y.1.id :: y.2 :: ens M := fun y M => by simp [ens, ecv]
    cases k with
    | zero => simp only [e, Nat.zero_mul, Nat.zero_add, List.set_cons_zero, List.set_cons_succ, List.getElem_cons_zero]
    | succ k =>
      have h3 : (k + 1) * 3 + 2 = k * 3 + 2 + 1 + 1 + 1 := by omega
      simp only [e, h3, List.set_cons_succ, List.getElem_cons_succ]
      rw [ih (by simpa using hk)]
/-- Copies of entries, k of them with operations of their own. -/
structure Cps (w0 wr : World) (B : Nat) (v : Value) (L0 L : List (EN × Value)) (k : Nat) : Prop where
  own : wr.ownsRow B 120 3 v L.length (ens L)
  fst : L.map Prod.fst = L0.map Prod.fst
  new : ∀ i (h : i < L.length), i < k → Sl wr 3 L[i].2 L[i].1.op.length (opv L[i].1.op) ∧ ∀ g, v.ownBlock = some g → Frs (g + 1) L[i].2
  old : ∀ i (h : i < L.length), k ≤ i → ∃ h0 : i < L0.length, L[i].2 = L0[i].2
theorem Cps.step {w0 wr w' : World} {B g k cap : Nat} {v v' : Value} {L0 L : List (EN × Value)} (h : Cps w0 wr B (.slice (some ⟨g, 0, none⟩) L.length cap) L0 L k) (hk : k < L.length) (hb : Below wr.heap.size wr w') (hg : g < wr.heap.size)
    (hs : Sl w' 3 v' L[k].1.op.length (opv L[k].1.op)) (hf : Frs wr.heap.size v') (hv : v = .slice (some ⟨g, 0, none⟩) L.length cap) :
    Cps w0 (w'.setCell ⟨g, k * 3 + 2, none⟩ v') B v L0 (L.set k (L[k].1, v')) (k + 1) := by
  subst hv
  have hO : Only (fun j => j = g) w' (w'.setCell ⟨g, k * 3 + 2, none⟩ v') := (Only.refl (fun j => j = g) w').setCell (p := ⟨g, k * 3 + 2, none⟩) (.inl rfl) _
  have own' := (own_only (h.own) (Only.of_below (S := fun _ => False) hb) (fun _ _ e => e)).stored (k * 3 + 2) v'
  refine ⟨?_, ?_, fun i hi hik => ?_, fun i hi hik => ?_⟩
  · rw [List.length_set, ← ens_set hk]
    exact own'.1
  · rw [List.map_set, ← h.fst]
    have : (L.map Prod.fst).set k ((L.map Prod.fst)[k]'(by simpa using hk)) = L.map Prod.fst := List.set_getElem_self _
    simpa using this
  · rw [List.length_set] at hi
    rw [List.getElem_set]
    split
    · refine ⟨hs.frs hf hO (fun j e => by subst e; exact hg), fun g' e => ?_⟩
      cases e
      exact hf.mono (show g + 1 ≤ wr.heap.size from hg)
    · obtain ⟨n1, n2⟩ := h.new i hi (by omega)
      have n3 : Frs (g + 1) L[i].2 := n2 g rfl
      exact ⟨(n1.below hb).frs n3 hO (fun j e => by subst e; exact Nat.lt_succ_self _), fun g' e => by cases e; exact n3⟩
  · rw [List.length_set] at hi
    rw [List.getElem_set, if_neg (by omega)]
    exact h.old i hi (by omega)
def LogPost (S : SV) (r : Int) (w : World) (e : Ending) (w' : World) : Prop :=
  Below w.heap.size w w' ∧ (¬ (0 ≤ r ∧ r ≤ (S.log.length : Int)) → e = .returned (.tuple #[.slice none 0 0, errno 2])) ∧
    (0 ≤ r ∧ r ≤ (S.log.length : Int) → ∃ v L, e = .returned (.tuple #[v, .nilIface]) ∧ Sl w' 3 v L.length (ens L) ∧ L.map Prod.fst = S.log.drop r.toNat ∧ (∀ x ∈ L, Sl w' 3 x.2 x.1.op.length (opv x.1.op) ∧ Frs w.heap.size x.2) ∧ Frs w.heap.size v)
section
attribute [local go_sem] add_mk
set_option maxHeartbeats 4000000 in
theorem slog_calls {w : World} {F : Nat → Prop} {s : SP} {S : SV} {r : Int} (h : SrvR w F s S) (hN : S.log.length ≤ 1000) :
    Calls Tryz.prog 18 #[.pointer (some ⟨s.a, 0, none⟩), .int .i64 r] w (LogPost S r w) := by
  obtain ⟨z0, z1, z2⟩ := three_cells h.blk
  have hl := h.len
  have HL := Hd.mk h
  obtain ⟨A, c, hv⟩ := own_form h.own
  rw [hv, hl] at z1
  have hsl := Sl.of_own h.own
  rw [hv, hl] at hsl
  have HSL := Hd.mk hsl
  have HLN := Hd.mk hl
  clear h hl hv hsl
  by_cases h0 : r < 0
  · have HN0 : Hd (¬ (0 ≤ r ∧ r ≤ (S.log.length : Int))) := ⟨by omega⟩
    go_enter Tryz.func18, Tryz.ntmps18
    go_wp2_with fail
    go_ret2
    exact ⟨Below.refl _ _, fun _ => rfl, fun h => absurd h HN0.out⟩
  by_cases h1 : (S.log.length : Int) < r
  · have HN0 : Hd (¬ (0 ≤ r ∧ r ≤ (S.log.length : Int))) := ⟨by omega⟩
    go_enter Tryz.func18, Tryz.ntmps18
    go_wp2_with fail
    go_ret2
    exact ⟨Below.refl _ _, fun _ => rfl, fun h => absurd h HN0.out⟩
  obtain ⟨k0, rfl⟩ := Int.eq_ofNat_of_zero_le (show 0 ≤ r by omega)
  have hk0 : k0 ≤ S.log.length := by omega
  have HR : Hd (0 ≤ (k0 : Int) ∧ (k0 : Int) ≤ (S.log.length : Int)) := ⟨by omega⟩
  have HEL : Hd ((ens s.L).drop (k0 * 3) = ens (s.L.drop k0)) := ⟨(ens_drop _ _).symm⟩
  have H1 : Hd (∀ u ∈ ens (s.L.drop k0), u.oneCell' = true) := ⟨ens_one' (F := F) (fun x hx => HL.out.ops x (List.mem_of_mem_drop hx)) (w := w)⟩
  obtain ⟨L0, hL0⟩ : ∃ L0, L0 = s.L.drop k0 := ⟨_, rfl⟩
  have HL0 := Hd.mk hL0
  have hl0 : L0.length = S.log.length - k0 := by rw [hL0, List.length_drop, HLN.out]
  have HN := Hd.mk hl0
  rw [← hL0] at HEL H1
  clear hL0 hl0
  go_enter Tryz.func18, Tryz.ntmps18
  go_wp2_with (first
    | (refine wp_from el_entry (k := k0) rfl rfl rfl rfl HSL.out hk0 ?_; intro A1 c1 hs1 hb1; rw [HEL.out] at hs1; have HS1 := Hd.mk hs1; clear hs1 hb1)
    | (go_at_call 56; refine (clones_calls HS1.out H1.out (by omega)).mono ?_; rintro e w1 ⟨⟨v1, rfl, ho1⟩, hb1⟩; rw [← HN.out] at ho1; obtain ⟨A2, c2, rfl⟩ := own_form ho1; have HO1 := Hd.mk ho1; have HB1 := Hd.mk hb1; clear ho1 hb1))
  have HM : Hd (L0.length ≤ 1000) := ⟨by have := HN.out; omega⟩
  have HC0 : Hd (Cps w w1 w.heap.size (.slice A2 L0.length c2) L0 L0 0) := ⟨⟨HO1.out, rfl, fun i _ h => by omega, fun i h _ => ⟨h, rfl⟩⟩⟩
  clear hk0
  go_loopw [29] (fun i wr => ∃ (k : Nat) (L : List (EN × Value)), k ≤ L0.length ∧ i = .int .i64 k ∧ L.length = L0.length ∧ Cps w wr w.heap.size (.slice A2 L0.length c2) L0 L k ∧ Below w.heap.size w wr) (fun i _ => L0.length - (intOf i).toNat)
  case atStart => exact ⟨0, L0, Nat.zero_le _, rfl, rfl, HC0.out, HB1.out⟩
  case round =>
    obtain ⟨k, L, hk, rfl, hlen, hcp, hbel⟩ := hrel
    have HB := Hd.mk hbel
    have HCP := Hd.mk hcp
    by_cases hkn : k < L0.length
    · have hkl : k < L.length := by omega
      obtain ⟨g, cap, hv, hg1, hg2⟩ := hcp.own.form (by omega)
      rw [hlen] at hv
      cases hv
      obtain ⟨h00, e2⟩ := hcp.old k hkl (Nat.le_refl _)
      have hx := HL.out.ops (L0[k]) (List.mem_of_mem_drop (by rw [← HL0.out]; exact List.getElem_mem _))
      have e1 : L[k].1 = L0[k].1 := by
        have := congrArg (fun l => l[k]?) hcp.fst
        simpa [hkl, hkn] using this
      have hso := hx.1
      rw [← e1, ← e2] at hso
      have HSO := Hd.mk (hso.below hbel)
      obtain ⟨A8, c8, he8, -⟩ := hso
      have hLk : L[k] = (L[k].1, Value.slice A8 L[k].1.op.length c8) := by rw [← he8]
      have hlog : S.log[k0 + k]? = some L[k].1 := by
        have := congrArg (fun l => l[k]?) HL0.out
        have h2 := congrArg (fun l => l[k0 + k]?) HL.out.log
        simp only [List.getElem?_drop, List.getElem?_map, List.getElem?_eq_getElem hkn] at this h2
        rw [← this] at h2
        rw [← h2, e1]; rfl
      have hsz : L[k].1.op.length ≤ 1000000 := by
        obtain ⟨g1, g2, g3, g4, g5, g6, g7⟩ := HL.out.ok.good hlog
        have := parts_le (fun p hp => (g1 p hp).1)
        omega
      have hown := hcp.own
      rw [hlen] at hown
      have cq := hown.cellAt (k * 3 + 2) (by omega)
      rw [(ens_at hkl).2.2, he8] at cq
      have fq := hown.frozenAt (k * 3 + 2)
      have HKL := Hd.mk hkl
      have HLE := Hd.mk hlen
      have HE8 := Hd.mk he8
      have HSZ := Hd.mk hsz
      clear hcp hown hlog hLk e1 e2 h00 hx hsz
      rw [he8] at HSO
      obtain ⟨q, hq⟩ : ∃ q, q = L[k].1.op := ⟨_, rfl⟩
      rw [← hq] at cq HSO HSZ
      have HQ := Hd.mk hq
      obtain ⟨nq, hnq⟩ : ∃ m, m = q.length := ⟨_, rfl⟩
      have HNQ := Hd.mk hnq
      rw [← hnq] at cq HSO HSZ
      clear hq hnq he8
      have hkb : k < 1000 := by have := HM.out; omega
      have hgl : g < wr.heap.size := by have := HCP.out.own.lt g rfl; exact this.2
      go_wp2_with fail
      refine (clone_calls HSO.out HSZ.out).mono ?_
      rintro e w9 ⟨⟨v9, rfl, hs9, hf9⟩, hb9⟩
      have HS9 := Hd.mk hs9
      have HF9 := Hd.mk hf9
      have HB9 := Hd.mk hb9
      obtain ⟨A9, c9, rfl, -⟩ := hs9
      have cq9 : w9.cell? ⟨g, k * 3 + 2, none⟩ = some (.slice A8 nq c8) := by rw [← cq]; exact hb9.cell (p := ⟨g, _, none⟩) hgl
      have fq9 : w9.frozen? ⟨g, k * 3 + 2, none⟩ = false := by rw [← fq]; exact hb9.frozen (p := ⟨g, _, none⟩) hgl
      have hgl9 : g < w9.heap.size := Nat.lt_of_lt_of_le hgl hb9.size
      clear cq fq hb9 hf9
      go_wp2_with fail
      have hcp2 : Cps w wr w.heap.size (.slice (some ⟨g, 0, none⟩) L.length c2) L0 L k := by rw [HLE.out]; exact HCP.out
      have hst := hcp2.step (v := .slice (some ⟨g, 0, none⟩) L0.length c2) HKL.out HB9.out hgl (by rw [← HQ.out, ← HNQ.out]; exact HS9.out) HF9.out (by rw [HLE.out])
      exact ⟨⟨k + 1, _, by omega, by go_num, by rw [List.length_set, HLE.out], hst, (bstep HB.out HB9.out).setCell hg1 _⟩, by simp only [intOf]; omega⟩
    · obtain rfl : k = L0.length := by omega
      have HLE := Hd.mk hlen
      clear hcp hbel
      go_wp2_with fail
      go_ret2
      refine ⟨HB.out, fun h => absurd HR.out h, fun _ => ⟨_, L, rfl, by rw [HLE.out]; have := Sl.of_own HCP.out.own; rwa [HLE.out] at this, ?_, fun x hx => ?_, Frs.of_own HCP.out.own⟩⟩
      · rw [HCP.out.fst, HL0.out, List.map_drop, HL.out.log]; rfl
      · obtain ⟨i, hi, rfl⟩ := List.getElem_of_mem hx
        obtain ⟨n1, n2⟩ := HCP.out.new i hi (by have := HLE.out; omega)
        refine ⟨n1, ?_⟩
        obtain ⟨g, cap, hv, hg1, -⟩ := HCP.out.own.form (by omega)
        exact (n2 g (by rw [hv]; rfl)).mono (by omega)
end
end Go.Proofs.YtdgdajnbkfmijaaGreatDoor
/- A server's does. -/
namespace Go.Proofs.YtdgdajnbkfmijaaGreatDoor
open Go.RowKit Go.Sort
set_option maxRecDepth 100000
/-- The variable errors.errorType, outside of what may turn. -/
def HdlO (F : Nat → Prop) (w : World) : Prop := Hdl w ∧ ¬ F 0
theorem HdlO.only {w w' : World} {F F' : Nat → Prop} (h : HdlO F w) (ho : Only F w w') (hF : Grow F F' w.heap.size) : HdlO F' w' := by
  refine ⟨?_, fun e => (hF _ e).elim h.2 (fun e => by have := h.1.lt; omega)⟩
  have := h.1
  unfold Hdl at this ⊢
  rw [← this]
  exact World.cell?_of_block (ho.block _ h.1.lt h.2)
theorem HdlO.below {w w' : World} {F F' : Nat → Prop} (h : HdlO F w) (hb : Below w.heap.size w w') (hF : Grow F F' w.heap.size) : HdlO F' w' := h.only (Only.of_below hb) hF
/-- What does leaves. -/
def DoesP (F : Nat → Prop) (s : SP) (r : Int × SV) (w : World) (e : Ending) (w' : World) : Prop :=
  ∃ s' : SP, s'.a = s.a ∧ s'.m = s.m ∧ Only s.F w w' ∧ Grow s.F s'.F w.heap.size ∧ e = .returned (errOf r.1) ∧ ∀ F', (∀ j, F' j → F j ∨ s'.F j) → (∀ j, s'.F j → F' j) → SrvR w' F' s' r.2
theorem Sl.lit {w : World} {t : TypeId} {size m : Nat} {cs : Array Value} (hl : cs.size = m * size) (hm : m ≤ maxLen) : Sl (w.alloc (.cells cs t)) size (.slice (some ⟨w.heap.size, 0, none⟩) m m) m cs.toList := by
  refine ⟨_, _, rfl, by simpa using hl, Nat.le_refl _, hm, (fun h => nomatch h), fun _ => ⟨_, rfl, by simp, fun j u hu => ?_⟩⟩
  have : (⟨w.heap.size, 0, none⟩ : Addr).add j = ⟨w.heap.size, j, none⟩ := by unfold Addr.add; split <;> simp_all
  rw [this, World.cell?_alloc_new]
  simpa using hu
theorem DoesP.same {F : Nat → Prop} {s : SP} {S : SV} {w w' : World} {c : Int} {e : Ending} (h : SrvR w F s S) (hb : Below w.heap.size w w') (he : e = .returned (errOf c)) : DoesP F s (c, S) w e w' :=
  ⟨s, rfl, rfl, Only.of_below hb, Grow.refl _ _, he, fun _ h1 h2 => h.only (G := fun _ => False) (Only.of_below hb) (fun _ e => e.elim) (fun _ _ e => e) (fun j hj => .inl ((h1 j hj).elim id (h.sub j))) h2 (fun j hj => Nat.lt_of_lt_of_le (h.flt j ((h1 j hj).elim id (h.sub j))) hb.size)⟩
/-- One more is done. -/
theorem SrvR.push {w w5 w6 w7 w8 : World} {F : Nat → Prop} {s : SP} {S : SV} {who id : Int} {lo : List PT} {R2 : List Int} {p5 : Nat} {t5 : RT} {v7 v8 : Value} (h : SrvR w F s S)
    (hok : SVok ⟨S.docs ++ [U.encs R2], S.log ++ [⟨who, id, lo⟩], S.last, S.tk⟩) (h5 : Below w.heap.size w w5) (hat : AtR w5 p5 t5) (hg : Good t5) (hr : t5.runes = R2) (hp : w.heap.size ≤ p5 ∧ ∀ i ∈ t5.blocks, w.heap.size ≤ i)
    (h6 : Only (fun k => k = s.a) w5 w6) (hb6 : Blk w6 s.a 106 #[.pointer (some ⟨p5, 0, none⟩), s.vl, .map (some s.m)]) (h7 : Below w6.heap.size w6 w7) (hs7 : Sl w7 3 v7 lo.length (opv lo)) (hf7 : Frs w6.heap.size v7)
    (h8 : w8.ownsRow 0 120 3 v8 (s.L.length + 1) (ens s.L ++ ecv (⟨who, id, lo⟩, v7))) (hg8 : w7.grownBy w8 s.vl.ownBlock) (hn8 : ∀ k, v8.ownBlock = some k → s.vl.ownBlock = some k ∨ w7.heap.size ≤ k)
    {c : Int} (hc : c = 0) {e : Ending} (he : e = .returned .nilIface) : DoesP F s (c, ⟨S.docs ++ [U.encs R2], S.log ++ [⟨who, id, lo⟩], S.last, S.tk⟩) w e (w8.setCell ⟨s.a, 1, none⟩ v8) := by
  subst hc
  obtain ⟨ap1, ap2⟩ := h.apart
  have hlt := h.lt
  have la := hlt s.a (.inl rfl)
  have lm := hlt s.m (.inr (.inr rfl))
  have lv := fun k hk => hlt k (.inr (.inl hk))
  have z5 := h5.size
  have z6 := h6.size
  have z7 := h7.size
  have z8 := hg8.size
  have o8 : Only (fun k => s.vl.ownBlock = some k) w7 w8 := (Only.of_grown hg8).mono (fun k _ e => e.symm)
  have o9 : Only (fun k => k = s.a) w8 (w8.setCell ⟨s.a, 1, none⟩ v8) := (Only.refl (fun k => k = s.a) w8).setCell (p := ⟨s.a, 1, none⟩) (.inl rfl) _
  have hall : Only s.F w (w8.setCell ⟨s.a, 1, none⟩ v8) :=
    ((((Only.of_below h5).trans (h6.mono (fun _ _ e => .inl e))).trans (Only.of_below h7)).trans (o8.mono (fun _ _ e => .inr (.inl e)))).trans (o9.mono (fun _ _ e => .inl e))
  have hgrow : ∀ k, v8.ownBlock = some k → s.F k ∨ w7.heap.size ≤ k := fun k hk => (hn8 k hk).imp_left (fun e => .inr (.inl e))
  have l8 : ∀ k, v8.ownBlock = some k → k < w8.heap.size := fun k hk => (h8.lt k hk).2
  have b8 : Blk w8 s.a 106 #[.pointer (some ⟨p5, 0, none⟩), s.vl, .map (some s.m)] := (hb6.below h7 hb6.lt).only o8 (fun e => (ap1 _ e).1 rfl)
  have lp := hat.blk.lt
  have a8 : AtR (w8.setCell ⟨s.a, 1, none⟩ v8) p5 t5 :=
    (((hat.only h6 (by have := hp.1; omega) (fun b hb => by have := hp.2 b hb; omega)).below h7).only o8 (fun e => by have := lv _ e; have := hp.1; omega) (fun b hb e => by have := lv _ e; have := hp.2 b hb; omega)).only o9 (by have := hp.1; omega) (fun b hb => by have := hp.2 b hb; omega)
  refine ⟨⟨s.a, p5, t5, v8, s.m, s.k, s.L ++ [(⟨who, id, lo⟩, v7)]⟩, rfl, rfl, hall, ?_, he, fun F' k1 k2 => ?_⟩
  · rintro j (e | e | e)
    · exact .inl (.inl e)
    · exact (hgrow j e).imp_right (fun e => by omega)
    · exact .inl (.inr (.inr e))
  have kG : ∀ j, F' j → F j ∨ w7.heap.size ≤ j := fun j hj => by
    rcases k1 j hj with hj | hj
    · exact .inl hj
    · rcases hj with e | e | e
      · exact .inl (h.sub j (.inl e))
      · exact (hgrow j e).imp_left (h.sub j)
      · exact .inl (h.sub j (.inr (.inr e)))
  refine ⟨hok, b8.set_ 1 v8, a8, hg, ?_, ⟨fun e => ?_, fun b hb e => ?_⟩, ?_, ?_, fun x hx => ?_, ?_, h.tk, k2, fun j hj => ?_⟩
  · unfold SV.doc
    have hl := h.ok.len
    dsimp only
    rw [List.length_append, List.getElem?_append_right (by simp; omega)]
    simp [hl, hr]
  · rcases kG _ e with e | e
    · have := h.flt _ e; have := hp.1; dsimp only at *; omega
    · dsimp only at e; omega
  · have := hat.tree.lt b hb
    rcases kG _ e with e | e
    · have := h.flt _ e; have := hp.2 b hb; omega
    · omega
  · have : (ens (s.L ++ [(⟨who, id, lo⟩, v7)])) = ens s.L ++ ecv (⟨who, id, lo⟩, v7) := by rw [ens_append, ens_one]
    rw [this, List.length_append]
    refine own_only h8 o9 (fun k hk e => ?_)
    rcases hn8 k hk with e2 | e2
    · exact (ap1 k e2).1 e
    · omega
  · rw [List.map_append, h.log]; rfl
  · rcases List.mem_append.1 hx with hx | hx
    · exact (h.ops x hx).only (hall.mono (fun k _ => h.sub k)) (fun j hj => (kG j hj).imp_right (fun e => by omega))
    · obtain rfl := List.mem_singleton.1 hx
      have hblk : ∀ ad n c, v7 = .slice (some ad) n c → 0 < n → w6.heap.size ≤ ad.block ∧ ad.block < w7.heap.size := fun ad n c e hn => by
        refine ⟨hf7 ad n c e, ?_⟩
        obtain ⟨A, c', e', -, -, -, -, hh⟩ := hs7
        rw [e'] at e
        cases e
        obtain ⟨ad', e2, hb, -⟩ := hh hn
        cases e2
        exact hb
      refine ⟨(hs7.only o8 (fun A c e hn hA => by have := hblk A _ c e hn; have := lv _ hA; omega)).only o9 (fun A c e hn hA => by have := hblk A _ c e hn; omega), fun ad n c e hn hF => ?_⟩
      have := hblk ad n c e hn
      rcases kG _ hF with e | e
      · have := h.flt _ e; omega
      · omega
  · refine (((h.map.below h5).only h6 (fun e => ap2 e.symm)).below h7).only o8 (fun e => (ap1 _ e).2 rfl) |>.only o9 (fun e => ap2 e.symm)
  · rw [World.size_setCell]
    rcases k1 j hj with hj | hj
    · have := h.flt j hj; omega
    · rcases hj with e | e | e
      · dsimp only at e; omega
      · exact l8 j e
      · dsimp only at e; omega
section
attribute [local go_sem] add_mk
set_option maxHeartbeats 8000000 in
theorem sdoes_calls {w : World} {F : Nat → Prop} {s : SP} {S : SV} {who id rev : Int} {op : List PT} {v : Value} (h : SrvR w F s S) (hg : HdlO F w) (hN : S.log.length ≤ 1000) (hxo : OpO F w v op) (hp : plen op ≤ 100000) (_hn : op.length ≤ 200000) :
    Calls Tryz.prog 52 #[.pointer (some ⟨s.a, 0, none⟩), .int .i64 who, .int .i64 id, .int .i64 rev, v] w (DoesP F s (S.does who id rev op) w) := by
  obtain ⟨z0, z1, z2⟩ := three_cells h.blk
  have hl := h.len
  have HL := Hd.mk h
  have HG := Hd.mk hg.1
  have hx := hxo.sl
  have HX := Hd.mk hx
  have HXO := Hd.mk (hxo.sub h.sub)
  have HLT := Hd.mk h.lt
  have HP := Hd.mk hp
  have HPP : Hd (∀ p ∈ op, p.put.length ≤ 35184372087808) := ⟨fun p hp' => by have := plen_mem' hp'; omega⟩
  obtain ⟨A, c, hv⟩ := own_form h.own
  rw [hv, hl] at z1
  have hsl := Sl.of_own h.own
  rw [hv, hl] at hsl
  have HSL := Hd.mk hsl
  have HLN := Hd.mk hl
  have HV := Hd.mk hv
  obtain ⟨Ax, cx, rfl, -⟩ := hx
  clear h hl hv hsl hg hp hxo
  by_cases h0 : rev < 0
  · have HD : Hd (S.does who id rev op = (2, S)) := ⟨by unfold SV.does; rw [if_pos (.inl h0)]⟩
    go_enter Tryz.func52, Tryz.ntmps52
    go_wp2_with fail
    go_ret
    rw [HD.out]
    exact DoesP.same HL.out (Below.refl _ _) rfl
  by_cases h1 : (S.log.length : Int) < rev
  · have HD : Hd (S.does who id rev op = (2, S)) := ⟨by unfold SV.does; rw [if_pos (.inr h1)]⟩
    go_enter Tryz.func52, Tryz.ntmps52
    go_wp2_with fail
    go_ret
    rw [HD.out]
    exact DoesP.same HL.out (Below.refl _ _) rfl
  by_cases h300 : 300 ≤ S.log.length
  · have HD : Hd (S.does who id rev op = (4, S)) := ⟨by unfold SV.does; rw [if_neg (by omega), if_pos h300]⟩
    have h3 : (300 : Int) ≤ (S.log.length : Int) := by omega
    go_enter Tryz.func52, Tryz.ntmps52
    go_wp2_with fail
    go_ret
    rw [HD.out]
    exact DoesP.same HL.out (Below.refl _ _) rfl
  have h3 : ¬ ((300 : Int) ≤ (S.log.length : Int)) := by omega
  obtain ⟨r, rfl⟩ := Int.eq_ofNat_of_zero_le (show 0 ≤ rev by omega)
  have hrl : r ≤ S.log.length := by omega
  have hrev : (Int.ofNat r).toNat = r := rfl
  have HD0 : Hd (S.does who id (r : Int) op = if chk op (((S.docs[r]?).getD []).length : Nat) ≠ 0 then (chk op (((S.docs[r]?).getD []).length : Nat), S)
      else if apc (folt op (S.log.drop r)) S.doc ≠ 0 then (apc (folt op (S.log.drop r)) S.doc, S)
      else if 2000 < (apr (folt op (S.log.drop r)) S.doc).length then (12, S)
      else (0, ⟨S.docs ++ [apr (folt op (S.log.drop r)) S.doc], S.log ++ [⟨who, id, folt op (S.log.drop r)⟩], S.last, S.tk⟩)) := ⟨by
    unfold SV.does; rw [if_neg (by omega), if_neg h300]; rfl⟩
  obtain ⟨R, hR1, hR2, hR3⟩ := HL.out.ok.at_ hrl
  obtain ⟨n, hn'⟩ : ∃ n, n = ((S.docs[r]?).getD []).length := ⟨_, rfl⟩
  have HNN := Hd.mk hn'
  have hnb : n ≤ 2000 := by rw [hn', hR1]; exact hR3
  have HDT := Hd.mk (stext_rope HL.out)
  clear hrev hn' hR1 hR2 hR3 h300
  go_enter Tryz.func52, Tryz.ntmps52
  go_upto_if 50 with (go_at_call 55; refine HDT.out.mono ?_; rintro e w0 ⟨rfl, hb0⟩; have HB0 := Hd.mk hb0; have v1 := hb0.cell (p := ⟨s.a, 1, none⟩) HL.out.blk.lt; rw [z1] at v1; clear hb0)
  go_cut [11] from 50 to 62 (fun sn wx => sn = .int .i64 (n : Int) ∧ Below w.heap.size w wx)
  case first =>
    by_cases hlt : r < S.log.length
    · have hlt' : (r : Int) < (S.log.length : Int) := by omega
      obtain ⟨b, o, c', hv, hbw, c0, c1, c2⟩ := HSL.out.entry hlt (by have := HLN.out; omega)
      cases hv
      have hrL : r < s.L.length := by have := HLN.out; omega
      have hxl : s.L[r] ∈ s.L := List.getElem_mem hrL
      have hso := (HL.out.ops _ hxl).1
      have hlog : S.log[r]? = some s.L[r].1 := by rw [← HL.out.log, List.getElem?_map, List.getElem?_eq_getElem hrL]; rfl
      obtain ⟨g1, g2, -⟩ := HL.out.ok.good hlog
      generalize s.L[r] = xr at *
      have HSO := Hd.mk hso
      obtain ⟨Ar, cr, hxr, -⟩ := hso
      have HW : Hd (wrap64 (was xr.1.op) = (n : Int)) := ⟨by rw [g2, ← HNN.out]; exact wrap_id (by omega) (by omega)⟩
      rw [hxr] at c2 HSO
      clear hxl hlog g1 g2
      have d2 := HB0.out.cell (p := ⟨b, o + r * 3 + 2, none⟩) hbw
      rw [c2] at d2
      have hbw0 : b < w0.heap.size := Nat.lt_of_lt_of_le hbw HB0.out.size
      go_wp2_with (go_at_call 74; refine (olens_calls (HSO.out.below HB0.out)).mono ?_; rintro e w2 ⟨rfl, hb2⟩; rw [HW.out]; have HB2 := Hd.mk (bstep HB0.out hb2); clear hb2)
      go_meet
      exact ⟨rfl, HB2.out⟩
    · have hlt' : ¬ ((r : Int) < (S.log.length : Int)) := by omega
      obtain rfl : r = S.log.length := by omega
      have HW : Hd (S.doc.length = n) := ⟨HNN.out.symm⟩
      go_wp2_with fail
      go_meet
      exact ⟨by rw [HW.out], HB0.out⟩
  case rest =>
    obtain ⟨rfl, hb1⟩ := hcut
    rename_i w1
    have HB1 := Hd.mk hb1
    have y0 := hb1.cell (p := ⟨s.a, 0, none⟩) HL.out.blk.lt
    have y1 := hb1.cell (p := ⟨s.a, 1, none⟩) HL.out.blk.lt
    rw [z0] at y0
    rw [z1] at y1
    have HCK := Hd.mk (ocheck_calls (m := (n : Int)) (HG.out.below hb1) (HX.out.below hb1) HPP.out (by omega))
    clear hb1
    by_cases hc : chk op (n : Int) = 0
    · rw [← HNN.out] at HD0
      have HC := Hd.mk hc
      have HD1 := Hd.mk (HD0.out.trans (if_neg (fun h => h hc)))
      have hce : errOf (chk op (n : Int)) = Value.nilIface := by rw [hc]; rfl
      have HCE := Hd.mk hce
      clear hc hce HD0
      have HEL : Hd ((ens s.L).drop (r * 3) = ens (s.L.drop r)) := ⟨(ens_drop _ _).symm⟩
      go_wp2_with (first
        | (go_at_call 92; refine HCK.out.mono ?_; rintro e w2 ⟨⟨ev, rfl, -, rfl⟩, hb2⟩; rw [HCE.out]; have HB2 := Hd.mk (bstep HB1.out hb2); have x0 := hb2.cell (p := ⟨s.a, 0, none⟩) (Nat.lt_of_lt_of_le HL.out.blk.lt HB1.out.size); have x1 := hb2.cell (p := ⟨s.a, 1, none⟩) (Nat.lt_of_lt_of_le HL.out.blk.lt HB1.out.size); rw [y0] at x0; rw [y1] at x1; clear hb2)
        | (refine wp_from el_entry (k := r) rfl rfl rfl rfl (HSL.out.below HB2.out) hrl ?_; intro A1 c1 hs1 hb1; rw [HEL.out] at hs1; have HS1 := Hd.mk hs1; clear hs1 hb1))
      clear y0 y1 x0 z0 z1 z2
      go_loopw [4, 76] (fun vo i wr => ∃ (k : Nat) (lo : List PT), k ≤ S.log.length - r ∧ i = .int .i64 k ∧ lo = folt op ((S.log.drop r).take k) ∧ OpO s.F wr vo lo ∧ Below w2.heap.size w2 wr) (fun _ i _ => (S.log.length - r) - (intOf i).toNat)
      case atStart => exact ⟨0, op, Nat.zero_le _, rfl, rfl, HXO.out.below HB2.out (Grow.refl _ _), Below.refl _ _⟩
      case round =>
        obtain ⟨k, lo, hk, rfl, hlo, hso, hbel⟩ := hrel
        have HW2 := Hd.mk hbel
        have HB := Hd.mk (bstep HB2.out hbel)
        have HOO := Hd.mk hso
        have hso := hso.sl
        have HSO := Hd.mk hso
        obtain ⟨fg1, fg2, fg3⟩ := folt_good HL.out.ok (r := r) (op := op) (by rw [← HNN.out]; exact HC.out) k (by omega)
        rw [← hlo] at fg1 fg2 fg3
        by_cases hkn : k < S.log.length - r
        · have hkl : k < (s.L.drop r).length := by rw [List.length_drop, HLN.out]; exact hkn
          obtain ⟨b, o, c', hv, hbw, c0, c1', c2⟩ := (HS1.out.below hbel).entry hkn hkl
          cases hv
          have hxl : (s.L.drop r)[k] ∈ s.L := List.mem_of_mem_drop (List.getElem_mem hkl)
          have hse := (HL.out.ops _ hxl).1
          have hlog : S.log[r + k]? = some ((s.L.drop r)[k]).1 := by
            rw [← HL.out.log, List.getElem?_map, ← List.getElem?_drop, List.getElem?_eq_getElem hkl]; rfl
          have hstep : folt op ((S.log.drop r).take (k + 1)) = trl false lo ((s.L.drop r)[k]).1.op := by
            have hk3 : k < (S.log.drop r).length := by rw [List.length_drop]; exact hkn
            rw [List.take_succ_eq_append_getElem hk3, folt_snoc, ← hlo]
            have : (S.log.drop r)[k] = ((s.L.drop r)[k]).1 := by
              have h1 : (S.log.drop r)[k]? = some ((s.L.drop r)[k]).1 := by rw [List.getElem?_drop]; exact hlog
              rw [List.getElem?_eq_getElem hk3] at h1
              exact Option.some.inj h1
            rw [this]
          obtain ⟨g1, g2, g3, g4, g5, g6, g7⟩ := HL.out.ok.good hlog
          generalize (s.L.drop r)[k] = xr at *
          have hd2000 : was lo ≤ 2000 := by rw [fg2, ← g2]; exact g5
          have HTC := Hd.mk (trc_good (n := ((S.docs[r + k]?).getD []).length) fg1 g1 fg2 g2 (by omega))
          have HM1 := Hd.mk (mo_good fg1 (by omega) (by rw [fg3]; exact HP.out))
          have HM2 := Hd.mk (mo_good g1 (by omega) (by omega))
          have HST := Hd.mk hstep
          have HSE := Hd.mk (hse.below HB.out)
          obtain ⟨Ae, ce, hxe, -⟩ := hse
          rw [hxe] at c2 HSE
          obtain ⟨Ao, co, rfl, -⟩ := hso
          have hkb : k < 1000 := by omega
          clear hlo fg1 fg2 fg3 hxl hlog g1 g2 g3 g4 g5 g6 g7 hstep hd2000 hxe hbel hkl
          generalize xr.1.op = le at *
          generalize xr.1.who = xw at *
          generalize xr.1.id = xi at *
          go_wp2_with (go_at_call 93; refine (otrans_new (first := false) (HG.out.below (ex_alloc HB.out _)) (HSO.out.below (ex_alloc (Below.refl _ _) _)) (HSE.out.below (ex_alloc (Below.refl _ _) _)) HM1.out HM2.out).mono ?_; rintro e w9 ⟨⟨hb9, v9, rfl, hs9, -⟩, hf9⟩; have HS9 := Hd.mk (hs9 HTC.out); have HF9 := Hd.mk ((hf9 _ _ rfl).mono (B' := w.heap.size) (by simp only [World.size_alloc]; have := HB.out.size; omega)); clear hf9; rw [HTC.out, errOf_zero]; have HB9 := Hd.mk ((ex_alloc (Below.refl _ _) _).trans (hb9.mono (by simp)) : Below wr.heap.size wr w9); obtain ⟨A9, c9, rfl, -⟩ := HS9.out; clear hs9 hb9)
          exact ⟨⟨k + 1, trl false lo le, by omega, by go_num, HST.out.symm, OpO.frs HS9.out HF9.out HLT.out, HW2.out.trans (HB9.out.mono HW2.out.size)⟩, by simp only [intOf]; omega⟩
        · obtain rfl : k = S.log.length - r := by omega
          rw [List.take_of_length_le (by rw [List.length_drop]; omega)] at hlo
          rw [show r + (S.log.length - r) = S.log.length from by omega] at fg2
          rw [← hlo] at HD1
          have HLO := Hd.mk hlo
          obtain ⟨R, hR1, hR2, hR3, hR4⟩ := HL.out.ok.doc_
          have hdl : S.doc.length ≤ 2000 := by rw [hR1]; exact hR3
          have y0 := (bstep HB1.out (Below.refl _ _)).cell (p := ⟨s.a, 0, none⟩) HL.out.blk.lt
          have hc0 := three_cells (HL.out.blk.below HB.out HL.out.blk.lt)
          obtain ⟨z0, z1, z2⟩ := hc0
          have HTX := Hd.mk (stext_rope (HL.out.below HB.out))
          have HPL : Hd (plen lo ≤ 100000) := ⟨by rw [fg3]; exact HP.out⟩
          have HAP := fun (W : World) (hW : Below wr.heap.size wr W) => Hd.mk (oapply_calls (s := S.doc) (HG.out.below (bstep HB.out hW)) (HSO.out.below hW) (fun p hp' => by have := plen_mem' hp'; have := HPL.out; omega) (by have := HPL.out; omega) (by omega))
          have HFG := Hd.mk fg1
          have HHB := hbel
          obtain ⟨Ao, co, rfl, -⟩ := hso
          have HR1 := Hd.mk hR1
          clear fg1 fg2 fg3 hbel hR4 y0 hlo
          have HHBL := Hd.mk HHB
          clear HHB hR1
          by_cases ha : apc lo S.doc = 0
          · have HD2 := Hd.mk (HD1.out.trans (if_neg (fun h => h ha)))
            rw [HR1.out] at ha
            obtain ⟨X, hX⟩ := apc_opr hR2 ha
            have hap := (hX.apply hR2).2
            rw [← HR1.out] at hap ha
            have hall := rap_all hX.allP hR2
            obtain ⟨R2, hR2e⟩ : ∃ x, x = rap X R := ⟨_, rfl⟩
            rw [← hR2e] at hap hall
            have HAE : Hd (errOf (apc lo S.doc) = Value.nilIface) := ⟨by rw [ha]; rfl⟩
            have HAQ := Hd.mk hap
            have HALL := Hd.mk hall
            have HX2 := Hd.mk hX
            have HR2E := Hd.mk hR2e
            clear ha hap hall hX hR2e
            by_cases h20 : 2000 < bl R2
            · have hi : (2000 : Int) < ((U.encs R2).length : Int) := by show (2000 : Int) < (bl R2 : Int); omega
              have HD3 := Hd.mk (HD2.out.trans (if_pos (by rw [HAQ.out]; exact h20)))
              clear h20
              go_wp2_with (first
                | (go_at_call 55; refine HTX.out.mono ?_; rintro e w3 ⟨rfl, hb3⟩; have HB3 := Hd.mk hb3; clear hb3)
                | (go_at_call 94; refine (HAP _ HB3.out).out.mono ?_; rintro e w4 ⟨rfl, hb4⟩; rw [HAE.out, HAQ.out]; have HB4 := Hd.mk (bstep (bstep HB.out HB3.out) hb4); clear hb4))
              go_ret
              rw [HD3.out]
              exact DoesP.same HL.out HB4.out rfl
            · have hi : ¬ ((2000 : Int) < ((U.encs R2).length : Int)) := by show ¬ ((2000 : Int) < (bl R2 : Int)); omega
              have HD3 := Hd.mk (HD2.out.trans (if_neg (by rw [HAQ.out]; exact h20)))
              have HBL : Hd (bl R2 ≤ 2000) := ⟨by omega⟩
              rw [HAQ.out] at HD3
              have HNW := fun W => Hd.mk (new_calls (U.sp_encs HALL.out) W (by have h1 : (U.encs R2).length = bl R2 := rfl; have := HBL.out; omega))
              clear h20
              go_upto_region 27 with (first
                | (go_at_call 55; refine HTX.out.mono ?_; rintro e w3 ⟨rfl, hb3⟩; have HB3 := Hd.mk hb3; clear hb3)
                | (go_at_call 94; refine (HAP _ HB3.out).out.mono ?_; rintro e w4 ⟨rfl, hb4⟩; rw [HAE.out, HAQ.out]; have HB4 := Hd.mk (bstep (bstep HB.out HB3.out) hb4); have HR4 := Hd.mk (bstep HB3.out hb4); clear hb4)
                | (go_at_call 48; refine (HNW _).out.mono ?_; rintro e w5 ⟨hb5, -, -, h5⟩; obtain ⟨p5, t5, rfl, hat5, hg5, hr5, hp5, ht5⟩ := h5 rfl (by have := HBL.out; omega); have HB5 := Hd.mk (bstep HB4.out hb5); have HR5 := Hd.mk (bstep HR4.out hb5); have HAT5 := Hd.mk hat5; have HG5 := Hd.mk hg5; have HE5 := Hd.mk hr5; have HP5 := Hd.mk (And.intro (Nat.le_trans HB4.out.size hp5) (fun i hi => Nat.le_trans HB4.out.size (ht5 i hi))); have hbk := HL.out.blk.below HB5.out HL.out.blk.lt; have HBK5 := Hd.mk hbk; obtain ⟨z0, z1, z2⟩ := three_cells hbk; have zf := hbk.frozen; have zl := hbk.lt; clear hb5 h5 hat5 hg5 hr5 hp5 ht5 hbk))
              obtain ⟨w6, hw6⟩ : ∃ W, W = w5.setCell ⟨s.a, 0, none⟩ (.pointer (some ⟨p5, 0, none⟩)) := ⟨_, rfl⟩
              have hbk6 : Blk w6 s.a 106 #[.pointer (some ⟨p5, 0, none⟩), s.vl, .map (some s.m)] := by rw [hw6]; exact HBK5.out.set_ 0 _
              have ho6 : Only (fun k => k = s.a) w5 w6 := by rw [hw6]; exact (Only.refl (fun k => k = s.a) w5).setCell (p := ⟨s.a, 0, none⟩) (.inl rfl) _
              rw [← hw6]
              clear hw6 z0 z1 z2 zf zl
              have HBK6 := Hd.mk hbk6
              have HO6 := Hd.mk ho6
              have HSO6 := Hd.mk ((HOO.out.below HR5.out (Grow.refl _ _)).only (ho6.mono (fun _ _ e => .inl e)) (Grow.refl _ _)).sl
              have HOW6 := Hd.mk (own_only (HL.out.own) ((Only.of_below HB5.out).trans (ho6.mono (S' := fun k => k = s.a) (fun _ _ e => e))) (fun k hk e => (HL.out.apart.1 k hk).1 e))
              have HLL : Hd (lo.length ≤ 1000000) := ⟨by have h1 := parts_le (fun p hp => (HFG.out p hp).1); have h2 := HX2.out.sizes.1; have := HPL.out; omega⟩
              obtain ⟨z0, z1, z2⟩ := three_cells hbk6
              rw [HV.out, HLN.out] at z1
              have zf := hbk6.frozen
              have zl := hbk6.lt
              clear hbk6 ho6
              have how6 := HOW6.out
              rw [HV.out, HLN.out] at how6
              have HOX6 := Hd.mk how6
              clear how6
              go_region_law (first
                | (go_simp; refine (clone_calls (HSO6.out.below (ex_drew (Below.refl _ _))) HLL.out).mono ?_; rintro e w7 ⟨⟨v7, rfl, hs7, hf7⟩, hb7⟩; have HB7 := Hd.mk ((ex_drew (Below.refl _ _)).trans hb7 : Below w6.heap.size w6 w7); have HS7 := Hd.mk hs7; have HF7 : Hd (Frs w6.heap.size v7) := ⟨hf7⟩; obtain ⟨A7, c7, rfl, -⟩ := hs7; have HBK7 := Hd.mk (HBK6.out.below HB7.out HBK6.out.lt); have HOW7 := Hd.mk (own_only HOX6.out (Only.of_below (S := fun _ => False) HB7.out) (fun _ _ e => e)); obtain ⟨x0, x1, x2⟩ := three_cells HBK7.out; rw [HV.out, HLN.out] at x1; have xf := HBK7.out.frozen; have xl := HBK7.out.lt; clear hf7 hb7)
                | (refine step_sl el_entry [.int .i64 who, .int .i64 id, .slice A7 lo.length c7] (.slice (some ⟨w7.heap.size, 0, none⟩) 1 1) (HOW7.out.alloc _) (Sl.lit rfl (by unfold maxLen; omega)) rfl rfl rfl rfl (one3 (a := .int .i64 who) (b := .int .i64 id) (c := .slice A7 lo.length c7) rfl rfl rfl) (by unfold maxLen; omega) (by omega) (Nat.zero_le _) ?_; intro v8 w8 hown8 hbel8 hgr8 hnew8; have HO8 := Hd.mk hown8; obtain ⟨A8, c8, rfl⟩ := own_form hown8; have HGR8 := Hd.mk hgr8; have HNW8 := Hd.mk hnew8; have hbk8 := (HBK7.out.alloc _).only (Only.of_grown hgr8) (fun e => (HL.out.apart.1 s.a (by rw [HV.out, HLN.out]; exact e.symm)).1 rfl); obtain ⟨y0, y1, y2⟩ := three_cells hbk8; have yf := hbk8.frozen; have yl := hbk8.lt; rw [HV.out, HLN.out] at y1; clear hown8 hbel8 hgr8 hnew8 hbk8))
              all_goals
                go_wp2_with fail
                go_ret
                rw [HD3.out]
                have hok := HL.out.ok.does who id (r : Int) op
                rw [HD3.out] at hok
                exact HL.out.push hok HB5.out HAT5.out HG5.out HE5.out HP5.out HO6.out HBK6.out (ex_alloc HB7.out _) (HS7.out.below (ex_alloc (Below.refl _ _) _)) HF7.out (by rw [HLN.out]; exact HO8.out) (by rw [HV.out, HLN.out]; exact HGR8.out) (fun k hk => by rw [HV.out, HLN.out]; exact HNW8.out k hk) rfl rfl
          · have HD2 := Hd.mk (HD1.out.trans (if_pos ha))
            have HAE : Hd (errOf (apc lo S.doc) = Value.iface 29 (.int .i64 (apc lo S.doc))) := ⟨if_neg ha⟩
            clear ha
            go_wp2_with (first
              | (go_at_call 55; refine HTX.out.mono ?_; rintro e w3 ⟨rfl, hb3⟩; have HB3 := Hd.mk hb3; clear hb3)
              | (go_at_call 94; refine (HAP _ HB3.out).out.mono ?_; rintro e w4 ⟨rfl, hb4⟩; rw [HAE.out]; have HB4 := Hd.mk (bstep (bstep HB.out HB3.out) hb4); clear hb4))
            go_ret
            rw [HD2.out]
            exact DoesP.same HL.out HB4.out (congrArg Ending.returned HAE.out.symm)
    · have HC := Hd.mk hc
      rw [← HNN.out] at HD0
      have HD1 := Hd.mk (HD0.out.trans (if_pos hc))
      have hee : errOf (chk op (n : Int)) = Value.iface 29 (.int .i64 (chk op (n : Int))) := if_neg hc
      have HEE := Hd.mk hee
      clear hc HD0 hee
      go_wp2_with (go_at_call 92; refine HCK.out.mono ?_; rintro e w2 ⟨⟨ev, rfl, -, rfl⟩, hb2⟩; rw [HEE.out]; have HB2 := Hd.mk (bstep HB1.out hb2); clear hb2)
      go_ret
      rw [HD1.out]
      exact DoesP.same HL.out HB2.out (congrArg Ending.returned HEE.out.symm)
end
end Go.Proofs.YtdgdajnbkfmijaaGreatDoor
/- A client in memory; what it tells of itself. -/
namespace Go.Proofs.YtdgdajnbkfmijaaGreatDoor
open Go.RowKit Go.Sort
set_option maxRecDepth 100000
/-- A list's array lies outside of what may turn. -/
def Out (F : Nat → Prop) (v : Value) : Prop := ∀ ad n c, v = .slice (some ad) n c → 0 < n → ¬ F ad.block
section
variable {F F' G : Nat → Prop} {w w' : World}
theorem Out.nil (F : Nat → Prop) : Out F (.slice none 0 0) := fun ad n c e => by cases e
theorem Out.frs {B : Nat} {v : Value} (h : Frs B v) (hF : ∀ j, F j → j < B) : Out F v := fun ad n c e _ hk => by have := h ad n c e; have := hF _ hk; omega
theorem Out.sub {v : Value} (h : Out F v) (hF : ∀ j, F' j → F j) : Out F' v := fun ad n c e hn hk => h ad n c e hn (hF _ hk)
/-- What lies in a world and outside of F lies outside of what grows of F. -/
theorem Out.grow {v : Value} {size n : Nat} {xs : List Value} (h : Out F v) (hs : Sl w size v n xs) (hF : Grow F F' w.heap.size) : Out F' v := fun ad m c e hn hk => by
  rcases hF _ hk with h1 | h1
  · exact h ad m c e hn h1
  · obtain ⟨A, c', e', -, -, -, -, h5⟩ := hs
    rw [e'] at e
    cases e
    obtain ⟨ad', e2, hb, -⟩ := h5 hn
    cases e2
    omega
theorem Sl.out {size n : Nat} {v : Value} {xs : List Value} (h : Sl w size v n xs) (hv : Out G v) (ho : Only G w w') : Sl w' size v n xs := h.only ho (fun A c e hn => hv A n c e hn)
/-- A document in its own form, outside of what may turn but for its block. -/
structure ShO (F : Nat → Prop) (w : World) (f : Nat) (u : Int) (R : List Int) : Prop where
  all : U.AllR R
  u1 : 1 ≤ u ∧ u ≤ 3
  sz : bl R ≤ 8000
  ex : ∃ t vh vr, Blk w f 196 #[.int .i64 u, .string ⟨t.toArray⟩, vh, vr] ∧ ShV w u R t vh vr ∧ Out F vh ∧ Out F vr
theorem ShO.shs {f : Nat} {u : Int} {R : List Int} (h : ShO F w f u R) : ShS w f u R := by
  obtain ⟨t, vh, vr, a, b, -⟩ := h.ex
  exact ⟨h.all, h.u1, h.sz, t, vh, vr, a, b⟩
theorem ShF.sho {B f : Nat} {u : Int} {R : List Int} (h : ShF B w f u R) (hF : ∀ j, F j → j < B) : ShO F w f u R := by
  obtain ⟨t, vh, vr, a, b, c, d⟩ := h.ex
  exact ⟨h.all, h.u1, h.sz, t, vh, vr, a, b, .frs c hF, .frs d hF⟩
theorem ShV.out {u : Int} {R : List Int} {t : U.Bs} {vh vr : Value} (h : ShV w u R t vh vr) (h1 : Out G vh) (h2 : Out G vr) (ho : Only G w w') : ShV w' u R t vh vr :=
  ⟨h.k1, fun e => ⟨(h.k2 e).1, (h.k2 e).2.1.out h1 ho, (h.k2 e).2.2⟩, fun e => ⟨(h.k3 e).1, (h.k3 e).2.1, (h.k3 e).2.2.out h2 ho⟩⟩
theorem ShV.grow {u : Int} {R : List Int} {t : U.Bs} {vh vr : Value} (h : ShV w u R t vh vr) (hu : 1 ≤ u ∧ u ≤ 3) (h1 : Out F vh) (h2 : Out F vr) (hF : Grow F F' w.heap.size) : Out F' vh ∧ Out F' vr := by
  have h3 : u = 1 ∨ u = 2 ∨ u = 3 := by omega
  rcases h3 with rfl | rfl | rfl
  · obtain ⟨-, rfl, rfl⟩ := h.k1 rfl
    exact ⟨.nil _, .nil _⟩
  · obtain ⟨-, hs, rfl⟩ := h.k2 rfl
    exact ⟨h1.grow hs hF, .nil _⟩
  · obtain ⟨-, rfl, hs⟩ := h.k3 rfl
    exact ⟨.nil _, h2.grow hs hF⟩
theorem ShO.only {f : Nat} {u : Int} {R : List Int} (h : ShO F w f u R) (ho : Only G w w') (hG : ∀ j, G j → F j) (hf : ¬ G f) (hF : Grow F F' w.heap.size) : ShO F' w' f u R := by
  obtain ⟨t, vh, vr, a, b, c, d⟩ := h.ex
  obtain ⟨g1, g2⟩ := b.grow h.u1 c d hF
  exact ⟨h.all, h.u1, h.sz, t, vh, vr, a.only ho hf, b.out (c.sub hG) (d.sub hG) ho, g1, g2⟩
theorem ShO.sub {f : Nat} {u : Int} {R : List Int} (h : ShO F w f u R) (hF : ∀ j, F' j → F j) : ShO F' w f u R := by
  obtain ⟨t, vh, vr, a, b, c, d⟩ := h.ex
  exact ⟨h.all, h.u1, h.sz, t, vh, vr, a, b, c.sub hF, d.sub hF⟩
end
/-- Where a client lies. -/
structure CP where
  a : Nat
  f : Nat
  vw : Value
  vt : Value
def CP.F (c : CP) (j : Nat) : Prop := j = c.a ∨ j = c.f
def CP.cells (c : CP) (C : CV) : Array Value := #[.int .i64 C.who, .pointer (some ⟨c.f, 0, none⟩), .string ⟨(U.encs C.seen).toArray⟩, .int .i64 (C.rev : Int), .int .i64 C.id, c.vw, c.vt, .bool C.has, .bool C.more, .int .i64 C.dropped]
/-- A client in memory; F: all that may turn, of it and of others. -/
structure CliR (w : World) (F : Nat → Prop) (c : CP) (C : CV) : Prop where
  blk : Blk w c.a 139 (c.cells C)
  way : OpO F w c.vw C.way
  wts : OpO F w c.vt C.waits
  sh : ShO F w c.f C.unit C.doc
  sub : ∀ j, c.F j → F j
  flt : ∀ j, F j → j < w.heap.size
section
variable {F F' G : Nat → Prop} {w w' : World} {c : CP} {C : CV}
theorem CliR.ne (h : CliR w F c C) : c.a ≠ c.f := by
  intro e
  obtain ⟨t, vh, vr, hb, -⟩ := h.sh.ex
  have ha := h.blk
  rw [e] at ha
  unfold Blk at ha hb
  rw [ha] at hb
  simp at hb
theorem CliR.only (h : CliR w F c C) (ho : Only G w w') (hG : ∀ j, G j → F j) (hs : ∀ j, c.F j → ¬ G j) (hF : Grow F F' w.heap.size) (hs' : ∀ j, c.F j → F' j) (hl : ∀ j, F' j → j < w'.heap.size) : CliR w' F' c C :=
  ⟨h.blk.only ho (hs _ (.inl rfl)), h.way.only (ho.mono (fun k _ => hG k)) hF, h.wts.only (ho.mono (fun k _ => hG k)) hF, h.sh.only ho hG (hs _ (.inr rfl)) hF, hs', hl⟩
theorem CliR.below (h : CliR w F c C) (hb : Below w.heap.size w w') : CliR w' F c C := h.only (G := fun _ => False) (Only.of_below hb) (fun _ e => e.elim) (fun _ _ e => e) (Grow.refl _ _) h.sub (fun j hj => Nat.lt_of_lt_of_le (h.flt j hj) hb.size)
theorem CliR.lt (h : CliR w F c C) : ∀ j, c.F j → j < w.heap.size := fun j hj => h.flt j (h.sub j hj)
theorem ten_cells {g : Nat} {ty : TypeId} {a0 a1 a2 a3 a4 a5 a6 a7 a8 a9 : Value} (h : Blk w g ty #[a0, a1, a2, a3, a4, a5, a6, a7, a8, a9]) :
    w.cell? ⟨g, 0, none⟩ = some a0 ∧ w.cell? ⟨g, 1, none⟩ = some a1 ∧ w.cell? ⟨g, 2, none⟩ = some a2 ∧ w.cell? ⟨g, 3, none⟩ = some a3 ∧ w.cell? ⟨g, 4, none⟩ = some a4 ∧
      w.cell? ⟨g, 5, none⟩ = some a5 ∧ w.cell? ⟨g, 6, none⟩ = some a6 ∧ w.cell? ⟨g, 7, none⟩ = some a7 ∧ w.cell? ⟨g, 8, none⟩ = some a8 ∧ w.cell? ⟨g, 9, none⟩ = some a9 := by
  have z := fun j => h.cell j
  have z0 := z 0
  have z1 := z 1
  have z2 := z 2
  have z3 := z 3
  have z4 := z 4
  have z5 := z 5
  have z6 := z 6
  have z7 := z 7
  have z8 := z 8
  have z9 := z 9
  simp only [List.getElem?_toArray, List.getElem?_cons_zero, List.getElem?_cons_succ] at z0 z1 z2 z3 z4 z5 z6 z7 z8 z9
  exact ⟨z0, z1, z2, z3, z4, z5, z6, z7, z8, z9⟩
theorem CliR.cells {a f : Nat} {vw vt : Value} (h : CliR w F ⟨a, f, vw, vt⟩ C) :
    w.cell? ⟨a, 0, none⟩ = some (.int .i64 C.who) ∧ w.cell? ⟨a, 1, none⟩ = some (.pointer (some ⟨f, 0, none⟩)) ∧ w.cell? ⟨a, 2, none⟩ = some (.string ⟨(U.encs C.seen).toArray⟩) ∧ w.cell? ⟨a, 3, none⟩ = some (.int .i64 (C.rev : Int)) ∧ w.cell? ⟨a, 4, none⟩ = some (.int .i64 C.id) ∧
      w.cell? ⟨a, 5, none⟩ = some vw ∧ w.cell? ⟨a, 6, none⟩ = some vt ∧ w.cell? ⟨a, 7, none⟩ = some (.bool C.has) ∧ w.cell? ⟨a, 8, none⟩ = some (.bool C.more) ∧ w.cell? ⟨a, 9, none⟩ = some (.int .i64 C.dropped) := ten_cells h.blk
theorem CliR.frozen {a f : Nat} {vw vt : Value} (h : CliR w F ⟨a, f, vw, vt⟩ C) : (∀ i, w.frozen? ⟨a, i, none⟩ = false) ∧ a < w.heap.size := ⟨h.blk.frozen, h.blk.lt⟩
/-- What a client's method leaves. -/
def CliP (F : Nat → Prop) (c : CP) (ev : Value) (C' : CV) (w : World) (e : Ending) (w' : World) : Prop :=
  ∃ c' : CP, c'.a = c.a ∧ Only c.F w w' ∧ Grow c.F c'.F w.heap.size ∧ e = .returned ev ∧ ∀ F', (∀ j, F' j → F j ∨ c'.F j) → (∀ j, c'.F j → F' j) → CliR w' F' c' C'
theorem CliP.same {ev : Value} (h : CliR w F c C) (hb : Below w.heap.size w w') : CliP F c ev C w (.returned ev) w' :=
  ⟨c, rfl, Only.of_below hb, Grow.refl _ _, rfl, fun _F' h1 h2 => h.only (G := fun _ => False) (Only.of_below hb) (fun _ e => e.elim) (fun _ _ e => e) (fun j hj => .inl ((h1 j hj).elim id (h.sub j))) h2 (fun j hj => Nat.lt_of_lt_of_le (h.flt j ((h1 j hj).elim id (h.sub j))) hb.size)⟩
theorem CliP.from_ {w3 : World} {ev : Value} {C' : CV} {e : Ending} (hb : Below w.heap.size w w3) (h : CliP F c ev C' w3 e w') : CliP F c ev C' w e w' := by
  obtain ⟨c', h1, h2, h3, h4, h5⟩ := h
  exact ⟨c', h1, (Only.of_below hb).trans h2, h3.mono hb.size, h4, h5⟩
/-- It turned: its document's block is where it was. -/
theorem CliP.turn {ev vw vt : Value} {C' : CV} (h : CliR w F c C) (ho : Only c.F w w') (hb : Blk w' c.a 139 (CP.cells ⟨c.a, c.f, vw, vt⟩ C')) (h1 : OpO F w' vw C'.way) (h2 : OpO F w' vt C'.waits) (h3 : ShO F w' c.f C'.unit C'.doc) : CliP F c ev C' w (.returned ev) w' :=
  ⟨⟨c.a, c.f, vw, vt⟩, rfl, ho, fun j hj => .inl hj, rfl, fun _ k1 k2 => by
    have k := fun j hj => (k1 j hj).elim id (fun e => h.sub j e)
    exact ⟨hb, h1.sub k, h2.sub k, h3.sub k, k2, fun j hj => Nat.lt_of_lt_of_le (h.flt j (k j hj)) ho.size⟩⟩
end
theorem cwho_rev {w : World} {F : Nat → Prop} {c : CP} {C : CV} (h : CliR w F c C) : Calls Tryz.prog 28 #[.pointer (some ⟨c.a, 0, none⟩)] w fun e w' => e = .returned (.int .i64 (C.rev : Int)) ∧ w' = w := by
  obtain ⟨z0, z1, z2, z3, z4, z5, z6, z7, z8, z9⟩ := ten_cells h.blk
  clear h
  go_enter Tryz.func28, Tryz.ntmps28
  go_wp2_with fail
  go_ret
  exact ⟨rfl, rfl⟩
theorem cseen_calls {w : World} {F : Nat → Prop} {c : CP} {C : CV} (h : CliR w F c C) : Calls Tryz.prog 29 #[.pointer (some ⟨c.a, 0, none⟩)] w fun e w' => e = .returned (.string ⟨(U.encs C.seen).toArray⟩) ∧ w' = w := by
  obtain ⟨z0, z1, z2, z3, z4, z5, z6, z7, z8, z9⟩ := ten_cells h.blk
  clear h
  go_enter Tryz.func29, Tryz.ntmps29
  go_wp2_with fail
  go_ret
  exact ⟨rfl, rfl⟩
theorem cpend_calls {w : World} {F : Nat → Prop} {c : CP} {C : CV} (h : CliR w F c C) : Calls Tryz.prog 30 #[.pointer (some ⟨c.a, 0, none⟩)] w fun e w' => e = .returned (.bool C.has) ∧ w' = w := by
  obtain ⟨z0, z1, z2, z3, z4, z5, z6, z7, z8, z9⟩ := ten_cells h.blk
  clear h
  go_enter Tryz.func30, Tryz.ntmps30
  go_wp2_with fail
  go_ret
  exact ⟨rfl, rfl⟩
theorem cunit_calls {w : World} {F : Nat → Prop} {c : CP} {C : CV} (h : CliR w F c C) : Calls Tryz.prog 64 #[.pointer (some ⟨c.a, 0, none⟩)] w fun e w' => e = .returned (.int .i64 C.unit) ∧ w' = w := by
  obtain ⟨z0, z1, z2, z3, z4, z5, z6, z7, z8, z9⟩ := ten_cells h.blk
  have HU := Hd.mk (unit_calls h.sh.shs)
  clear h
  go_enter Tryz.func64, Tryz.ntmps64
  go_wp2_with fail
  refine HU.out.mono ?_
  rintro e w1 ⟨rfl, rfl⟩
  go_wp2_with fail
  go_ret
  exact ⟨rfl, rfl⟩
theorem ctext_calls {w : World} {F : Nat → Prop} {c : CP} {C : CV} (h : CliR w F c C) : Calls Tryz.prog 31 #[.pointer (some ⟨c.a, 0, none⟩)] w fun e w' => e = .returned (.string ⟨(U.encs C.doc).toArray⟩) ∧ Below w.heap.size w w' := by
  obtain ⟨z0, z1, z2, z3, z4, z5, z6, z7, z8, z9⟩ := ten_cells h.blk
  have HT := Hd.mk (shtext_calls h.sh.shs)
  clear h
  go_enter Tryz.func31, Tryz.ntmps31
  go_wp2_with fail
  refine HT.out.mono ?_
  rintro e w1 ⟨rfl, hb1⟩
  have HB1 := Hd.mk hb1
  clear hb1
  go_wp2_with fail
  go_ret
  exact ⟨rfl, HB1.out⟩
/-- Four results. -/
theorem res_four {fn : Func} {t u v x : Tmp} (h : fn.results = #[.tmp t, .tmp u, .tmp v, .tmp x]) (tmps : Array Value) (P : Program) (w : World) :
    (results fn tmps).run P w = .ok (.tuple #[tmps.getD t undef, tmps.getD u undef, tmps.getD v undef, tmps.getD x undef]) w := by simp [results, h]
/-- What Asks hands back. -/
def AskPost (C : CV) (w : World) (e : Ending) (w' : World) : Prop :=
  Below w.heap.size w w' ∧ (C.has = false → e = .returned (.tuple #[.int .i64 0, .int .i64 (C.rev : Int), .slice none 0 0, .bool false])) ∧
    (C.has = true → ∃ v, e = .returned (.tuple #[.int .i64 C.id, .int .i64 (C.rev : Int), v, .bool true]) ∧ Sl w' 3 v C.way.length (opv C.way) ∧ Frs w.heap.size v)
set_option maxHeartbeats 4000000 in
theorem casks_calls {w : World} {F : Nat → Prop} {c : CP} {C : CV} (h : CliR w F c C) (hn : C.way.length ≤ 1000000) : Calls Tryz.prog 82 #[.pointer (some ⟨c.a, 0, none⟩)] w (AskPost C w) := by
  obtain ⟨z0, z1, z2, z3, z4, z5, z6, z7, z8, z9⟩ := ten_cells h.blk
  have HLT := Hd.mk h.blk.lt
  have HW := Hd.mk h.way.sl
  obtain ⟨A, cc, hv, -⟩ := h.way.sl
  rw [hv] at z5 HW
  clear h hv
  cases hh : C.has
  · rw [hh] at z7
    have HH := Hd.mk hh
    clear hh
    go_enter Tryz.func82, Tryz.ntmps82
    go_wp2_with fail
    go_quiet (fail)
    go_wp2_with fail
    (try simp only [Exit.inBlock, Exit.then])
    refine bodyPost_ret (res_four rfl _ _ _) rfl ?_
    exact ⟨ex_drewN nq (Below.refl _ _), fun _ => rfl, fun e => by rw [HH.out] at e; cases e⟩
  · rw [hh] at z7
    have HH := Hd.mk hh
    clear hh
    go_enter Tryz.func82, Tryz.ntmps82
    go_upto_region 3 with fail
    go_region_with (go_at_call 57; refine (clone_calls (HW.out.below (ex_drew (Below.refl _ _))) hn).mono ?_; rintro e w1 ⟨⟨v1, rfl, hs1, hf1⟩, hb1⟩; have hb2 : Below w.heap.size w w1 := (ex_drew (Below.refl _ _)).trans hb1; have y3 := hb2.cell (p := ⟨c.a, 3, none⟩) HLT.out; have y4 := hb2.cell (p := ⟨c.a, 4, none⟩) HLT.out; rw [z3] at y3; rw [z4] at y4; have H := Hd.mk (And.intro hs1 (And.intro hf1 hb2)); obtain ⟨A1, c1, rfl, -⟩ := hs1; clear hf1 hb1 hb2)
    all_goals
      go_wp2_with fail
      (try simp only [Exit.inBlock, Exit.then])
      refine bodyPost_ret (res_four rfl _ _ _) rfl ?_
      refine ⟨H.out.2.2, ?_, ?_⟩
      · intro e; rw [HH.out] at e; cases e
      · intro _; exact ⟨_, rfl, H.out.1, H.out.2.1⟩
end Go.Proofs.YtdgdajnbkfmijaaGreatDoor
/- A client's lays and Refused. -/
namespace Go.Proofs.YtdgdajnbkfmijaaGreatDoor
open Go.RowKit Go.Sort
set_option maxRecDepth 100000
theorem sp_all {R : List Int} (h : U.AllR R) : U.Sp (U.encs R) R [] := U.sp_encs h
/-- A document within bounds as a rope. -/
theorem rope_calls {R : List Int} (h : U.AllR R) (hb : bl R ≤ 8000) (w : World) :
    Calls Tryz.prog 48 #[.string ⟨(U.encs R).toArray⟩] w fun e w' => Below w.heap.size w w' ∧ ∃ p t, e = .returned (.tuple #[.pointer (some ⟨p, 0, none⟩), .nilIface]) ∧ AtR w' p t ∧ Good t ∧ t.runes = R := by
  refine (new_calls (sp_all h) w (by show bl R ≤ _; omega)).mono ?_
  rintro e w' ⟨hb', -, -, h4⟩
  obtain ⟨p, t, a, b, c, d, -⟩ := h4 rfl hb
  exact ⟨hb', p, t, a, b, c, d⟩
/-- An operation in bytes, over the document, laid into it. -/
def LaysP (c : CP) (C : CV) (V : List (RU Int)) (w : World) (e : Ending) (w' : World) : Prop :=
  e = .returned .nilIface ∧ Only (fun k => k = c.f) w w' ∧ ∃ B, w.heap.size ≤ B ∧ ShF B w' c.f C.unit (rap V C.doc)
set_option maxHeartbeats 2000000 in
theorem clays_calls {w : World} {F : Nat → Prop} {c : CP} {C : CV} {l : List PT} {V : List (RU Int)} {v : Value} (h : CliR w F c C) (hg : HdlO F w) (hx : OpO F w v l) (hV : OpR l V C.doc) (hp : plen l ≤ 100000) (hn : l.length ≤ 100000) (hb : bl (rap V C.doc) ≤ 8000) :
    Calls Tryz.prog 158 #[.pointer (some ⟨c.a, 0, none⟩), v] w (LaysP c C V w) := by
  obtain ⟨z0, z1, z2, z3, z4, z5, z6, z7, z8, z9⟩ := ten_cells h.blk
  have HLT := Hd.mk h.blk.lt
  have HT := Hd.mk (shtext_calls h.sh.shs)
  have HS := Hd.mk h.sh.shs
  have HR := fun W => Hd.mk (rope_calls h.sh.all h.sh.sz W)
  have HU := Hd.mk (And.intro h.sh.u1 h.sh.all)
  have HG := Hd.mk hg.1
  have HX := Hd.mk hx.sl
  have HV := Hd.mk hV
  have HP := Hd.mk (And.intro hp hn)
  have HB := Hd.mk hb
  obtain ⟨A, cc, rfl, -⟩ := hx.sl
  clear h hg hx hV hp hn hb z0 z2 z3 z4 z5 z6 z7 z8 z9
  go_enter Tryz.func158, Tryz.ntmps158
  go_wp2_with fail
  refine HT.out.mono ?_
  rintro e w1 ⟨rfl, hb1⟩
  have HB1 := Hd.mk hb1
  clear hb1
  go_wp2_with fail
  refine (HR _).out.mono ?_
  rintro e w2 ⟨hb2, p, t, rfl, hat, hgd, hrt⟩
  have hx2 := bstep HB1.out hb2
  have HB2 := Hd.mk hx2
  have HAT := Hd.mk hat
  have HGD := Hd.mk hgd
  have HRT := Hd.mk hrt
  have y1 := hx2.cell (p := ⟨c.a, 1, none⟩) HLT.out
  rw [z1] at y1
  clear hb2 hat hgd hrt hx2
  go_wp2_with fail
  refine (unit_calls (HS.out.below HB2.out)).mono ?_
  rintro e w3 ⟨rfl, rfl⟩
  go_wp2_with fail
  refine (from_new (R := C.doc) HAT.out HGD.out HRT.out.symm (HG.out.below HB2.out) (HX.out.below HB2.out) (fun p hp => by have := plen_mem hp; have := HP.out.1; omega) HP.out.2).mono ?_
  rintro e w4 ⟨⟨hb4, v4, o, k, rfl, hs4, ht4⟩, -⟩
  obtain ⟨rfl, ht5, hpo, hlo⟩ := tnR_there HU.out.1 HV.out ht4
  rw [show erV 0 = Value.nilIface from rfl]
  have hx4 := bstep HB2.out hb4
  have HB4 := Hd.mk hx4
  have HS4 := Hd.mk hs4
  have HT5 := Hd.mk (And.intro ht5 (And.intro hpo hlo))
  have x1 := hx4.cell (p := ⟨c.a, 1, none⟩) HLT.out
  rw [z1] at x1
  obtain ⟨A4, c4, rfl, -⟩ := hs4
  clear hb4 ht4 ht5 hpo hlo hx4 y1
  go_wp2_with fail
  refine (shap_new (HS.out.below HB4.out) (HG.out.below HB4.out) HS4.out (by have := HP.out.1; have := HT5.out.2.1; omega) (by have := HP.out.2; have := HT5.out.2.2; omega)).mono ?_
  rintro e w5 ⟨ho5, h5⟩
  have hfin : e = .returned .nilIface ∧ ShF w4.heap.size w5 c.f C.unit (rap V C.doc) := by
    rcases h5 with ⟨k, hk, -, -, hu⟩ | ⟨O, X, hO, -, -, hu, -, hh⟩
    · exact absurd (hu _ _ HT5.out.1).symm hk
    · obtain ⟨e1, -⟩ := hu _ _ HT5.out.1
      subst e1
      have e2 : rap X C.doc = rap V C.doc := by
        have a1 := (hO.apply HU.out.2).2
        have a2 := (HV.out.apply HU.out.2).2
        exact encs_inj (rap_all hO.allP HU.out.2) (rap_all HV.out.allP HU.out.2) (a1.symm.trans a2)
      rw [e2] at hh
      rcases hh with ⟨h8, -⟩ | ⟨-, he, hs⟩
      · exact absurd HB.out (by omega)
      · exact ⟨he, hs⟩
  obtain ⟨rfl, hs5⟩ := hfin
  have HO5 := Hd.mk ho5
  have HS5 := Hd.mk hs5
  clear ho5 h5 hs5
  go_wp2_with fail
  go_ret
  exact ⟨rfl, (Only.of_below HB4.out).trans HO5.out, _, HB4.out.size, HS5.out⟩
end Go.Proofs.YtdgdajnbkfmijaaGreatDoor
/- A client's Take: another one's operation. -/
namespace Go.Proofs.YtdgdajnbkfmijaaGreatDoor
open Go.RowKit Go.Sort
set_option maxRecDepth 100000
/-- What a call that hands back a new operation, and no error, leaves. -/
def NewOp (l : List PT) (w : World) (e : Ending) (w' : World) : Prop :=
  Below w.heap.size w w' ∧ ∃ v, e = .returned (.tuple #[v, .nilIface]) ∧ Sl w' 3 v l.length (opv l) ∧ Frs w.heap.size v
theorem opr_mo {l : List PT} {X : List (RU Int)} {R : List Int} (h : OpR l X R) (hR : bl R ≤ 20000) (hp : plen l ≤ 20000) : Mo l l.length := by
  have hb := h.sizes.1
  exact mo_good h.arg (by rw [hb]; omega) (by omega)
theorem trans_ok {a b : List PT} {X Y : List (RU Int)} {R : List Int} {va vb : Value} {first : Bool} {w : World} (hg : Hdl w) (ha : Sl w 3 va a.length (opv a)) (hb : Sl w 3 vb b.length (opv b)) (hX : OpR a X R) (hY : OpR b Y R) (hR : bl R ≤ 20000) (hpa : plen a ≤ 20000) (hpb : plen b ≤ 20000) :
    Calls Tryz.prog 93 #[va, vb, .bool first] w (NewOp (trl first a b) w) := by
  refine (otrans_new (first := first) hg ha hb (opr_mo hX hR hpa) (opr_mo hY hR hpb)).mono ?_
  rintro e w' ⟨⟨hb', v, rfl, h0, -⟩, hf⟩
  have hc : trc a b = 0 := trc_good hX.arg hY.arg hX.sizes.1 hY.sizes.1 (by omega)
  exact ⟨hb', v, by rw [hc]; rfl, h0 hc, hf _ _ rfl⟩
theorem comp_ok {a b : List PT} {X Y : List (RU Int)} {R : List Int} {va vb : Value} {w : World} (hg : Hdl w) (ha : Sl w 3 va a.length (opv a)) (hb : Sl w 3 vb b.length (opv b)) (hX : OpR a X R) (hY : OpR b Y (rap X R)) (hR : bl R ≤ 10000) (hpa : plen a ≤ 10000) (hpb : plen b ≤ 10000) :
    Calls Tryz.prog 77 #[va, vb] w (NewOp (cml a b) w) := by
  have h2 : bl (rap X R) ≤ 20000 := by have := hX.bounds; omega
  refine (ocomp_new hg ha hb (opr_mo hX (by omega) (by omega)) (opr_mo hY h2 (by omega))).mono ?_
  rintro e w' ⟨⟨hb', v, rfl, h0, -⟩, hf⟩
  have c1 := chk_of hX.arg hX.sizes.1
  have c2 := chk_of hY.arg hY.sizes.1
  have e1 := hX.sizes.1
  have e2 := hX.sizes.2
  have e3 := hY.sizes.1
  have w1 : wrap64 (bl R : Int) = bl R := wrap_id (by omega) (by omega)
  have w2 : wrap64 (bl (rap X R) : Int) = bl (rap X R) := wrap_id (by omega) (by omega)
  have hc : cmc a b = 0 := by
    unfold cmc chk2
    rw [e1, e3, e2, w1, w2, c1, c2]
    simp
  exact ⟨hb', v, by rw [hc]; rfl, h0 hc, hf _ _ rfl⟩
theorem apply_ok {l : List PT} {X : List (RU Int)} {R : List Int} {v : Value} {w : World} (hg : Hdl w) (hs : Sl w 3 v l.length (opv l)) (hX : OpR l X R) (hR : U.AllR R) (hb : bl R ≤ 100000) (hp : plen l ≤ 100000) :
    Calls Tryz.prog 94 #[v, .string ⟨(U.encs R).toArray⟩] w fun e w' => e = .returned (.tuple #[.string ⟨(U.encs (rap X R)).toArray⟩, .nilIface]) ∧ Below w.heap.size w w' := by
  refine (oapply_calls hg hs (fun p hp' => by have := plen_mem' hp'; omega) (by omega) (by show bl R ≤ _; omega)).mono ?_
  rintro e w' ⟨rfl, hb'⟩
  obtain ⟨h1, h2⟩ := hX.apply hR
  exact ⟨by rw [h1, h2]; rfl, hb'⟩
end Go.Proofs.YtdgdajnbkfmijaaGreatDoor
