/- Several texts of the proof, one behind the other: SrvE, SrvN, RSrvA, RSrvD. -/
import Derived.Test.YtdgdajnbkfmijaaGreatDoorMServerPlays42
import Derived.Test.YtdgdajnbkfmijaaGreatDoorMServerPlays13
import Derived.Carry
import Derived.Test.YtdgdajnbkfmijaaGreatDoorMServerPlays29
import Derived.Test.YtdgdajnbkfmijaaGreatDoorMServerPlays6
/- A server's Take and New. -/
namespace Go.Proofs.YtdgdajnbkfmijaaGreatDoor
open Go.RowKit Go.Sort
set_option maxRecDepth 100000
theorem SV.does_last (S : SV) (who id rev : Int) (op : List PT) : (S.does who id rev op).2.last = S.last ∧ (S.does who id rev op).2.tk = S.tk := by
  unfold SV.does
  repeat' split
  all_goals exact ⟨rfl, rfl⟩
/-- What was answered is kept. -/
theorem SrvR.stored {w w3 w4 : World} {F : Nat → Prop} {s : SP} {S : SV} {M : Int → Option (Int × Int)} (h : SrvR w F s S) (hb : Below w.heap.size w w3) (hm : Mp w4 s.m (s.k + 1) M) (ho : Only (fun k => k = s.m) w3 w4) :
    SrvR w4 F { s with k := s.k + 1 } { S with last := M, tk := S.tk + 1 } := by
  have h3 := h.below hb
  obtain ⟨ap1, ap2⟩ := h3.apart
  have hns : ∀ j, j = s.m → F j := fun j e => h.sub j (.inr (.inr e))
  refine ⟨⟨h3.ok.len, h3.ok.txt, h3.ok.step⟩, h3.blk.only ho ap2, h3.rope.only ho (fun e => h3.rp.1 (hns _ e)) (fun b hb e => h3.rp.2 b hb (hns _ e)), h3.good, h3.doc, h3.rp, own_only h3.own ho (fun k hk => (ap1 k hk).2), h3.log,
    h3.ops.only (ho.mono (fun k _ => hns k)) (Grow.refl _ _), hm, by have := h3.tk; dsimp only; omega, h3.sub, fun j hj => Nat.lt_of_lt_of_le (h3.flt j hj) ho.size⟩
/-- What Take leaves, where an operation is new. -/
theorem DoesP.fresh {w w1 w2 w3 w4 : World} {F : Nat → Prop} {s s' : SP} {S : SV} {who id rev : Int} {op : List PT} {c : Int} {e : Ending} (hb1 : Below w.heap.size w w1) (ha : s'.a = s.a) (hm : s'.m = s.m) (ho : Only s.F w1 w2) (hg : Grow s.F s'.F w1.heap.size)
    (hS : ∀ F', (∀ j, F' j → F j ∨ s'.F j) → (∀ j, s'.F j → F' j) → SrvR w2 F' s' (S.does who id rev op).2) (hb3 : Below w2.heap.size w2 w3) (hm4 : Mp w4 s'.m (s'.k + 1) (mput (S.does who id rev op).2.last who (id, c))) (ho4 : Only (fun k => k = s'.m) w3 w4)
    (hc : c = (S.does who id rev op).1) (he : e = .returned (errOf c)) (hsm : s.F s.m) : DoesP F s (S.fresh who id rev op) w e w4 := by
  obtain ⟨l1, l2⟩ := S.does_last who id rev op
  refine ⟨{ s' with k := s'.k + 1 }, ha, hm, (((Only.of_below hb1).trans ho).trans (Only.of_below hb3)).trans (ho4.mono (fun k _ e => by rw [e, hm]; exact hsm)), hg.mono hb1.size, ?_, fun F' k1 k2 => ?_⟩
  · rw [he, hc]; rfl
  · have := (hS F' k1 k2).stored hb3 hm4 ho4
    unfold SV.fresh
    rw [l1] at this
    rw [l2] at this
    rw [hc] at this
    exact this
set_option maxHeartbeats 8000000 in
theorem stake_calls {w : World} {F : Nat → Prop} {s : SP} {S : SV} {who id rev : Int} {op : List PT} {v : Value} (h : SrvR w F s S) (hg : HdlO F w) (hN : S.log.length ≤ 1000) (hT : S.tk ≤ 1000000000) (hwho : (Lit.int .i64 who).wf = true) (hxo : OpO F w v op) (hp : plen op ≤ 100000) (hn : op.length ≤ 200000) :
    Calls Tryz.prog 12 #[.pointer (some ⟨s.a, 0, none⟩), .int .i64 who, .int .i64 id, .int .i64 rev, v] w (DoesP F s (S.take who id rev op) w) := by
  obtain ⟨z0, z1, z2⟩ := three_cells h.blk
  have HL := Hd.mk h
  have HG := Hd.mk hg
  have HX := Hd.mk hxo
  have HW := Hd.mk hwho
  have HP := Hd.mk hp
  have HM := Hd.mk h.map
  have HTK := Hd.mk hT
  obtain ⟨⟨Ax, cx, rfl, -⟩, -⟩ := hxo
  clear h hg hwho hp z0 z1 hT
  obtain ⟨o, ho⟩ : ∃ o, o = S.last who := ⟨_, rfl⟩
  cases o with
  | none =>
    have HT : Hd (S.take who id rev op = S.fresh who id rev op) := ⟨by unfold SV.take; rw [← ho]⟩
    have HO := Hd.mk ho
    clear ho
    go_enter Tryz.func12, Tryz.ntmps12
    go_upto_region 9 with (first
      | (at_lookup; refine wp_look_ok rfl rfl Tryz.underlying104 (zero_last _) rfl rfl HW.out HM.out ?_; rw [← HO.out]; unfold prV)
      | (go_at_call 52; refine (sdoes_calls (HL.out.below (ex_alloc (Below.refl _ _) _)) (HG.out.below (ex_alloc (Below.refl _ _) _) (Grow.refl _ _)) hN (HX.out.below (ex_alloc (Below.refl _ _) _) (Grow.refl _ _)) HP.out hn).mono ?_; rintro e w2 hd; obtain ⟨s', ha, hm, ho2, hgr, rfl, hS⟩ := hd))
    have HS := Hd.mk hS
    have HS1 := Hd.mk (hS (fun j => F j ∨ s'.F j) (fun _ e => e) (fun _ e => .inr e))
    have HA := Hd.mk ha
    have HMM := Hd.mk hm
    have HO2 := Hd.mk ho2
    have HGR := Hd.mk hgr
    have HG2 : Hd (Hdl w2) := ⟨((HG.out.below (ex_alloc (Below.refl _ _) _) (Grow.refl _ _)).only (F' := F) (ho2.mono (fun k _ e => HL.out.sub k e)) (Grow.refl _ _)).1⟩
    obtain ⟨c, hc⟩ : ∃ c, c = (S.does who id rev op).1 := ⟨_, rfl⟩
    rw [← hc]
    have HC := Hd.mk hc
    have hblk := HS1.out.blk
    rw [ha] at hblk
    obtain ⟨x0, x1, x2⟩ := three_cells hblk
    have xl := hblk.lt
    have HTKb : Hd (s'.k < maxLen) := ⟨by have h1 := HS1.out.tk; have h2 := (S.does_last who id rev op).2; have h3 := HTK.out; unfold maxLen; omega⟩
    clear hS ha hm ho2 hgr hc hblk x0 x1 z2
    go_region_with (go_at_call 53; refine (tell_calls (errV_of _ _) (HG2.out.below (ex_drew (Below.refl _ _)))).mono ?_; rintro e w3 ⟨rfl, hb3⟩; have HB3 := Hd.mk ((ex_drew (Below.refl _ _)).trans hb3 : Below w2.heap.size w2 w3); obtain ⟨w4, hrun, hM4, hO4, hz4⟩ := (HS1.out.map.below HB3.out).store (a := id) (c := c) Tryz.underlying104 HTKb.out HW.out; have y2 := HB3.out.cell (p := ⟨s.a, 2, none⟩) xl; rw [x2] at y2; have HM4 := Hd.mk hM4; have HO4 := Hd.mk hO4; clear hb3 hM4 hO4)
    all_goals
      go_wp2_with fail
      go_ret
      rw [HT.out]
      exact DoesP.fresh (ex_alloc (Below.refl _ _) _) HA.out HMM.out HO2.out HGR.out HS.out HB3.out HM4.out HO4.out HC.out rfl (.inr (.inr rfl))
  | some p =>
    obtain ⟨i, k⟩ := p
    by_cases h1 : id < i
    · have HT : Hd (S.take who id rev op = (8, S)) := ⟨by unfold SV.take; rw [← ho]; dsimp only; rw [if_pos h1]⟩
      have h1b : id ≤ i := by omega
      have HO := Hd.mk ho
      clear ho
      go_enter Tryz.func12, Tryz.ntmps12
      go_wp2_with (at_lookup; refine wp_look_ok rfl rfl Tryz.underlying104 (zero_last _) rfl rfl HW.out HM.out ?_; rw [← HO.out]; unfold prV)
      go_ret
      rw [HT.out]
      exact DoesP.same HL.out (ex_alloc (Below.refl _ _) _) rfl
    by_cases h2 : id = i
    · subst h2
      have HT : Hd (S.take who id rev op = (k, S)) := ⟨by unfold SV.take; rw [← ho]; dsimp only; rw [if_neg h1, if_pos rfl]⟩
      have HO := Hd.mk ho
      clear ho
      by_cases hk : k = 0
      · subst hk
        go_enter Tryz.func12, Tryz.ntmps12
        go_wp2_with (at_lookup; refine wp_look_ok rfl rfl Tryz.underlying104 (zero_last _) rfl rfl HW.out HM.out ?_; rw [← HO.out]; unfold prV)
        go_ret
        rw [HT.out]
        exact DoesP.same HL.out (ex_alloc (Below.refl _ _) _) rfl
      · have hkb : (k == 0) = false := by rw [beq_eq_false_iff_ne]; exact hk
        have HK := Hd.mk hk
        clear hk
        go_enter Tryz.func12, Tryz.ntmps12
        go_wp2_with (at_lookup; refine wp_look_ok rfl rfl Tryz.underlying104 (zero_last _) rfl rfl HW.out HM.out ?_; rw [← HO.out]; unfold prV)
        go_ret
        rw [HT.out]
        exact DoesP.same HL.out (ex_alloc (Below.refl _ _) _) (congrArg Ending.returned (errOf_ne HK.out).symm)
    · have HT : Hd (S.take who id rev op = S.fresh who id rev op) := ⟨by unfold SV.take; rw [← ho]; dsimp only; rw [if_neg h1, if_neg h2]⟩
      have h3 : ¬ id ≤ i := by omega
      have HO := Hd.mk ho
      clear ho h1 h2
      go_enter Tryz.func12, Tryz.ntmps12
      go_upto_region 9 with (first
        | (at_lookup; refine wp_look_ok rfl rfl Tryz.underlying104 (zero_last _) rfl rfl HW.out HM.out ?_; rw [← HO.out]; unfold prV)
        | (go_at_call 52; refine (sdoes_calls (HL.out.below (ex_alloc (Below.refl _ _) _)) (HG.out.below (ex_alloc (Below.refl _ _) _) (Grow.refl _ _)) hN (HX.out.below (ex_alloc (Below.refl _ _) _) (Grow.refl _ _)) HP.out hn).mono ?_; rintro e w2 hd; obtain ⟨s', ha, hm, ho2, hgr, rfl, hS⟩ := hd))
      have HS := Hd.mk hS
      have HS1 := Hd.mk (hS (fun j => F j ∨ s'.F j) (fun _ e => e) (fun _ e => .inr e))
      have HA := Hd.mk ha
      have HMM := Hd.mk hm
      have HO2 := Hd.mk ho2
      have HGR := Hd.mk hgr
      have HG2 : Hd (Hdl w2) := ⟨((HG.out.below (ex_alloc (Below.refl _ _) _) (Grow.refl _ _)).only (F' := F) (ho2.mono (fun k _ e => HL.out.sub k e)) (Grow.refl _ _)).1⟩
      obtain ⟨c, hc⟩ : ∃ c, c = (S.does who id rev op).1 := ⟨_, rfl⟩
      rw [← hc]
      have HC := Hd.mk hc
      have hblk := HS1.out.blk
      rw [ha] at hblk
      obtain ⟨x0, x1, x2⟩ := three_cells hblk
      have xl := hblk.lt
      have HTKb : Hd (s'.k < maxLen) := ⟨by have h1 := HS1.out.tk; have h2 := (S.does_last who id rev op).2; have h3 := HTK.out; unfold maxLen; omega⟩
      clear hS ha hm ho2 hgr hc hblk x0 x1 z2
      go_region_with (go_at_call 53; refine (tell_calls (errV_of _ _) (HG2.out.below (ex_drew (Below.refl _ _)))).mono ?_; rintro e w3 ⟨rfl, hb3⟩; have HB3 := Hd.mk ((ex_drew (Below.refl _ _)).trans hb3 : Below w2.heap.size w2 w3); obtain ⟨w4, hrun, hM4, hO4, hz4⟩ := (HS1.out.map.below HB3.out).store (a := id) (c := c) Tryz.underlying104 HTKb.out HW.out; have y2 := HB3.out.cell (p := ⟨s.a, 2, none⟩) xl; rw [x2] at y2; have HM4 := Hd.mk hM4; have HO4 := Hd.mk hO4; clear hb3 hM4 hO4)
      all_goals
        go_wp2_with fail
        go_ret
        rw [HT.out]
        exact DoesP.fresh (ex_alloc (Below.refl _ _) _) HA.out HMM.out HO2.out HGR.out HS.out HB3.out HM4.out HO4.out HC.out rfl (.inr (.inr rfl))
end Go.Proofs.YtdgdajnbkfmijaaGreatDoor
/- A new server. -/
namespace Go.Proofs.YtdgdajnbkfmijaaGreatDoor
open Go.RowKit Go.Sort
set_option maxRecDepth 100000
def SNewPost (rs : List Int) (rest : U.Bs) (w : World) (e : Ending) (w' : World) : Prop :=
  Below w.heap.size w w' ∧ (rest ≠ [] → ∃ g, e = .returned (.tuple #[.pointer none, atV g]) ∧ AtBlk w' g 3 (bl rs)) ∧
    (rest = [] → 2000 < bl rs → e = .returned (.tuple #[.pointer none, errno 12])) ∧
    (rest = [] → bl rs ≤ 2000 → ∃ s : SP, e = .returned (.tuple #[.pointer (some ⟨s.a, 0, none⟩), .nilIface]) ∧ (∀ j, s.F j → w.heap.size ≤ j) ∧ w.heap.size ≤ s.p ∧ SrvR w' s.F s (SV.new (U.encs rs)))
/-- .. beside other things that may turn. -/
theorem SrvR.widen {w : World} {F F' : Nat → Prop} {s : SP} {S : SV} {B : Nat} (h : SrvR w F s S) (hs : ∀ j, F j → F' j) (hb : ∀ j, F' j → F j ∨ j < B) (hl : ∀ j, F' j → j < w.heap.size) (hp : B ≤ s.p) (ht : ∀ b ∈ s.t.blocks, B ≤ b) (ho : S.log = []) : SrvR w F' s S := by
  have hL : s.L = [] := by have := h.len; rw [ho] at this; exact List.length_eq_zero_iff.1 this
  exact ⟨h.ok, h.blk, h.rope, h.good, h.doc, ⟨fun e => (hb _ e).elim h.rp.1 (fun e => by omega), fun b hb' e => (hb _ e).elim (h.rp.2 b hb') (fun e => by have := ht b hb'; omega)⟩, h.own, h.log, fun x hx => by rw [hL] at hx; simp at hx, h.map, h.tk, fun j hj => hs j (h.sub j hj), hl⟩
set_option maxHeartbeats 4000000 in
theorem snew_calls {s : U.Bs} {rs : List Int} {rest : U.Bs} (hsp : U.Sp s rs rest) (hs : s.length ≤ 1000000) (w : World) :
    Calls Tryz.prog 7 #[.string ⟨s.toArray⟩] w (SNewPost rs rest w) := by
  have HC := Hd.mk (count_calls hsp w (by omega))
  have HALL := Hd.mk hsp.all
  have hmm := @run_makeMap Tryz.prog
  have hoff : U.off rs rs.length = bl rs := U.off_full rs
  have HOF := Hd.mk hoff
  by_cases hr : rest = []
  · subst hr
    obtain rfl : s = U.encs rs := by have := hsp.eq; simpa using this
    have hlen : (U.encs rs).length = bl rs := rfl
    have HLEN := Hd.mk hlen
    have HN := fun W => Hd.mk (new_calls hsp W hs)
    by_cases hbl : 2000 < bl rs
    · have hi : (2000 : Int) < ((U.encs rs).length : Int) := by show (2000 : Int) < (bl rs : Int); omega
      have HBL := Hd.mk hbl
      clear hsp hoff hlen hbl hs
      go_enter Tryz.func7, Tryz.ntmps7
      go_wp2_with (go_at_call 21; refine HC.out.mono ?_; rintro e w1 ⟨hb1, hok, -⟩; obtain rfl := hok rfl; have HB1 := Hd.mk hb1; clear hb1 hok)
      go_ret2
      exact ⟨ex_alloc HB1.out _, fun h => absurd rfl h, fun _ _ => rfl, fun _ h => absurd HBL.out (by omega)⟩
    · have hi : ¬ ((2000 : Int) < ((U.encs rs).length : Int)) := by show ¬ ((2000 : Int) < (bl rs : Int)); omega
      have HBL : Hd (bl rs ≤ 2000) := ⟨by omega⟩
      clear hsp hoff hlen hbl hs
      go_enter Tryz.func7, Tryz.ntmps7
      go_wp2_with (first
        | (go_at_call 21; refine HC.out.mono ?_; rintro e w1 ⟨hb1, hok, -⟩; obtain rfl := hok rfl; have HB1 := Hd.mk (ex_alloc hb1 (.cells #[.int .i64 (cnt rs).b, .int .i64 (cnt rs).h, .int .i64 (cnt rs).r, .int .i64 (cnt rs).l] 63)); clear hb1 hok)
        | (go_at_call 48; refine (HN _).out.mono ?_; rintro e w5 ⟨hb5, -, -, h5⟩; obtain ⟨p5, t5, rfl, hat5, hg5, hr5, hp5, ht5⟩ := h5 rfl (by have := HBL.out; omega); have HB5 := Hd.mk (bstep HB1.out hb5); have HAT5 := Hd.mk hat5; have HG5 := Hd.mk hg5; have HE5 := Hd.mk hr5; have HP5 := Hd.mk (And.intro (Nat.le_trans HB1.out.size hp5) (fun i hi => Nat.le_trans HB1.out.size (ht5 i hi))); clear hb5 h5 hat5 hg5 hr5 hp5 ht5))
      go_ret2
      have hz5 := HB5.out.size
      have hx : Below w5.heap.size w5 ((w5.alloc (.map #[] 0)).alloc (.cells #[.pointer (some ⟨p5, 0, none⟩), .slice none 0 0, .map (some w5.heap.size)] 106)) := ex_alloc (ex_alloc (Below.refl _ _) _) _
      have hlp := HAT5.out.blk.lt
      have hF : ∀ j, (SP.mk (w5.heap.size + 1) p5 t5 (.slice none 0 0) w5.heap.size 0 []).F j → j = w5.heap.size ∨ j = w5.heap.size + 1 := by
        rintro j (e | e | e)
        · exact .inr e
        · cases e
        · exact .inl e
      refine ⟨HB5.out.trans (hx.mono hz5), fun h => absurd rfl h, fun _ h => absurd h (by have := HBL.out; omega), fun _ _ => ⟨⟨w5.heap.size + 1, p5, t5, .slice none 0 0, w5.heap.size, 0, []⟩, ?_, fun j hj => by rcases hF j hj with e | e <;> omega, HP5.out.1, ?_⟩⟩
      · simp
      · refine ⟨SVok.new HALL.out HBL.out, ?_, HAT5.out.below hx, HG5.out, by rw [HE5.out]; rfl, ⟨fun e => by rcases hF _ e with e | e <;> (dsimp only at e; omega), fun b hb e => by have := HAT5.out.tree.lt b hb; rcases hF _ e with e | e <;> omega⟩, World.ownsRow_nil _ _ _ _, rfl, fun x hx => by simp at hx, ?_, Nat.le_refl _, fun _ h => h, fun j hj => ?_⟩
        · have := Blk.new (w5.alloc (.map #[] 0)) 106 #[.pointer (some ⟨p5, 0, none⟩), .slice none 0 0, .map (some w5.heap.size)]
          rw [World.size_alloc] at this
          exact this
        · exact (Mp.new w5).below (ex_alloc (Below.refl _ _) _)
        · rcases hF j hj with e | e <;> (simp; omega)
  · have HRR := Hd.mk hr
    clear hsp hoff hs hr
    go_enter Tryz.func7, Tryz.ntmps7
    go_wp2_with (go_at_call 21; refine HC.out.mono ?_; rintro e w1 ⟨hb1, -, hok⟩; obtain ⟨g, rfl, hg⟩ := hok HRR.out; have HB1 := Hd.mk hb1; have HG := Hd.mk hg; clear hb1 hok hg)
    go_ret2
    refine ⟨ex_alloc HB1.out _, fun _ => ⟨g, rfl, ?_⟩, fun h => absurd h HRR.out, fun h => absurd h HRR.out⟩
    rw [← HOF.out]
    exact HG.out.below (ex_alloc (Below.refl _ _) _)
end Go.Proofs.YtdgdajnbkfmijaaGreatDoor
/- The reference's server in memory; its Text. -/
namespace Go.Proofs.YtdgdajnbkfmijaaGreatDoor
open Go.RowKit Go.Sort
set_option maxRecDepth 100000
theorem el_rentry : El Tryz.prog 47 94 3 40 := El.mk' Tryz.underlying47 (by kernel_rfl) (by decide)
structure RSP where
  a : Nat
  vd : Value
  ve : Value
  m : Nat
  k : Nat
  L : List (EN × Value)
def RSP.F (s : RSP) (j : Nat) : Prop := j = s.a ∨ s.vd.ownBlock = some j ∨ s.ve.ownBlock = some j ∨ j = s.m
structure RSrvR (w : World) (F : Nat → Prop) (s : RSP) (S : SV) : Prop where
  ok : SVok S
  blk : Blk w s.a 50 #[s.vd, s.ve, .map (some s.m)]
  docs : w.ownsRow 0 9 1 s.vd S.docs.length (strs S.docs)
  own : w.ownsRow 0 94 3 s.ve s.L.length (ens s.L)
  log : s.L.map Prod.fst = S.log
  ops : EnO F w s.L
  map : Mp w s.m s.k S.last
  tk : s.k ≤ S.tk
  sub : ∀ j, s.F j → F j
  flt : ∀ j, F j → j < w.heap.size
section
variable {w w' : World} {F F' G : Nat → Prop} {s : RSP} {S : SV}
theorem RSrvR.len (h : RSrvR w F s S) : s.L.length = S.log.length := by rw [← h.log, List.length_map]
theorem RSrvR.only (h : RSrvR w F s S) (ho : Only G w w') (hG : ∀ j, G j → F j) (hs : ∀ j, s.F j → ¬ G j) (hF : Grow F F' w.heap.size) (hs' : ∀ j, s.F j → F' j) (hl : ∀ j, F' j → j < w'.heap.size) : RSrvR w' F' s S :=
  ⟨h.ok, h.blk.only ho (hs _ (.inl rfl)), own_only h.docs ho (fun k hk => hs _ (.inr (.inl hk))), own_only h.own ho (fun k hk => hs _ (.inr (.inr (.inl hk)))), h.log,
    h.ops.only (ho.mono (fun k _ => hG k)) hF, h.map.only ho (hs _ (.inr (.inr (.inr rfl)))), h.tk, hs', hl⟩
theorem RSrvR.below (h : RSrvR w F s S) (hb : Below w.heap.size w w') : RSrvR w' F s S := h.only (G := fun _ => False) (Only.of_below hb) (fun _ e => e.elim) (fun _ _ e => e) (Grow.refl _ _) h.sub (fun j hj => Nat.lt_of_lt_of_le (h.flt j hj) hb.size)
theorem RSrvR.lt (h : RSrvR w F s S) : ∀ j, s.F j → j < w.heap.size := fun j hj => h.flt j (h.sub j hj)
theorem own_type {base : Nat} {e : TypeId} {size n : Nat} {v : Value} {xs : List Value} {k : Nat} (h : w.ownsRow base e size v n xs) (hk : v.ownBlock = some k) : ∃ cur, w.heap[k]? = some (.cells cur e (0, 0)) := by
  rcases h.2 with ⟨e, -⟩ | ⟨g, cap, cur, e, -, hg, -⟩
  · rw [e] at hk; cases hk
  · rw [e] at hk
    cases hk
    exact ⟨cur, hg⟩
theorem blk_ne {w : World} {g k : Nat} {t e : TypeId} {cs cur : Array Value} (h : Blk w g t cs) (hk : w.heap[k]? = some (.cells cur e (0, 0))) (ht : t ≠ e) : k ≠ g := fun e' => by
  subst e'
  unfold Blk at h
  rw [h] at hk
  cases hk
  exact ht rfl
theorem map_ne {w : World} {k m : Nat} {e : TypeId} {cur : Array Value} {es : Array MapEntry} {clock : Nat} (h : w.heap[m]? = some (.map es clock)) (hk : w.heap[k]? = some (.cells cur e (0, 0))) : k ≠ m := fun e' => by
  subst e'
  rw [h] at hk
  cases hk
theorem RSrvR.apart (h : RSrvR w F s S) : (∀ k, s.vd.ownBlock = some k → k ≠ s.a ∧ k ≠ s.m ∧ s.ve.ownBlock ≠ some k) ∧ (∀ k, s.ve.ownBlock = some k → k ≠ s.a ∧ k ≠ s.m) ∧ s.a ≠ s.m := by
  obtain ⟨es, clock, hm⟩ := h.map.cap
  refine ⟨fun k hk => ?_, fun k hk => ?_, map_ne hm h.blk⟩
  · obtain ⟨cur, hc⟩ := own_type h.docs hk
    refine ⟨blk_ne h.blk hc (by decide), map_ne hm hc, fun e => ?_⟩
    obtain ⟨cur2, hc2⟩ := own_type h.own e
    rw [hc] at hc2
    simp at hc2
  · obtain ⟨cur, hc⟩ := own_type h.own hk
    exact ⟨blk_ne h.blk hc (by decide), map_ne hm hc⟩
end
set_option maxHeartbeats 1000000 in
theorem rstext_calls {w : World} {F : Nat → Prop} {s : RSP} {S : SV} (h : RSrvR w F s S) (hN : S.log.length ≤ 1000) : Calls Tryz.prog 17 #[.pointer (some ⟨s.a, 0, none⟩)] w fun e w' => e = .returned (.string ⟨S.doc.toArray⟩) ∧ Below w.heap.size w w' := by
  obtain ⟨z0, z1, z2⟩ := three_cells h.blk
  have hl := h.ok.len
  obtain ⟨g, cap, hv, -, -⟩ := h.docs.form (by omega)
  have hd := h.docs
  rw [hv] at hd
  have hc := hd.cellAt S.log.length (by omega)
  rw [hv, hl] at z0
  obtain ⟨R, hR1, -, -, hR4⟩ := h.ok.doc_
  have hst : (strs S.docs)[S.log.length]? = some (.string ⟨S.doc.toArray⟩) := by
    unfold strs
    rw [List.getElem?_map, hR4, hR1]; rfl
  rw [hst] at hc
  have y1 : IntKind.i64.wrap (((S.log.length + 1 : Nat) : Int) - 1) = (S.log.length : Int) := by rw [IntKind.wrap_i64] <;> omega
  have y1' : IntKind.i64.wrap (((S.log.length : Nat) : Int) + 1 - 1) = (S.log.length : Int) := by rw [IntKind.wrap_i64] <;> omega
  have y2 : (0 : Int) ≤ (S.log.length : Int) := by omega
  have y3 : (S.log.length : Int) < ((S.log.length + 1 : Nat) : Int) := by omega
  clear h hl hv hd hR1 hR4 hst z1 z2
  go_enter Tryz.func17, Tryz.ntmps17
  go_wp2_with fail
  go_quiet (fail)
  go_wp2_with fail
  go_ret
  exact ⟨rfl, ex_drewN nq (Below.refl _ _)⟩
end Go.Proofs.YtdgdajnbkfmijaaGreatDoor
/- The reference's server: does. -/
namespace Go.Proofs.YtdgdajnbkfmijaaGreatDoor
open Go.RowKit Go.Sort
set_option maxRecDepth 100000
def RDoesP (F : Nat → Prop) (s : RSP) (r : Int × SV) (w : World) (e : Ending) (w' : World) : Prop :=
  ∃ s' : RSP, s'.a = s.a ∧ s'.m = s.m ∧ Only s.F w w' ∧ Grow s.F s'.F w.heap.size ∧ e = .returned (.int .i64 r.1) ∧ ∀ F', (∀ j, F' j → F j ∨ s'.F j) → (∀ j, s'.F j → F' j) → RSrvR w' F' s' r.2
theorem RDoesP.same {F : Nat → Prop} {s : RSP} {S : SV} {w w' : World} {c : Int} {e : Ending} (h : RSrvR w F s S) (hb : Below w.heap.size w w') (he : e = .returned (.int .i64 c)) : RDoesP F s (c, S) w e w' :=
  ⟨s, rfl, rfl, Only.of_below hb, Grow.refl _ _, he, fun _ h1 h2 => h.only (G := fun _ => False) (Only.of_below hb) (fun _ e => e.elim) (fun _ _ e => e) (fun j hj => .inl ((h1 j hj).elim id (h.sub j))) h2 (fun j hj => Nat.lt_of_lt_of_le (h.flt j ((h1 j hj).elim id (h.sub j))) hb.size)⟩
/-- One more is done. -/
theorem RSrvR.push {w w5 w6 w7 w8 : World} {F : Nat → Prop} {s : RSP} {S : SV} {who id : Int} {lo : List PT} {d : U.Bs} {v6 vo v8 : Value} (h : RSrvR w F s S)
    (hok : SVok ⟨S.docs ++ [d], S.log ++ [⟨who, id, lo⟩], S.last, S.tk⟩) (h5 : Below w.heap.size w w5) (hgr : w5.grownBy w6 s.vd.ownBlock) (hn6 : ∀ k, v6.ownBlock = some k → s.vd.ownBlock = some k ∨ w5.heap.size ≤ k)
    (h6 : w6.ownsRow 0 9 1 v6 (S.docs.length + 1) (strs S.docs ++ [.string ⟨d.toArray⟩])) (h7 : Only (fun k => k = s.a) w6 w7) (hb7 : Blk w7 s.a 50 #[v6, s.ve, .map (some s.m)])
    {w7b : World} (h7b : Below w7.heap.size w7 w7b) (h8 : w8.ownsRow 0 94 3 v8 (s.L.length + 1) (ens s.L ++ ecv (⟨who, id, lo⟩, vo))) (hg8 : w7b.grownBy w8 s.ve.ownBlock) (hn8 : ∀ k, v8.ownBlock = some k → s.ve.ownBlock = some k ∨ w7b.heap.size ≤ k)
    (hlo : OpO s.F w5 vo lo) (hloF : ∀ ad n c, vo = .slice (some ad) n c → 0 < n → ¬ F ad.block) {c : Int} (hc : c = 0) {e : Ending} (he : e = .returned (.int .i64 0)) : RDoesP F s (c, ⟨S.docs ++ [d], S.log ++ [⟨who, id, lo⟩], S.last, S.tk⟩) w e (w8.setCell ⟨s.a, 1, none⟩ v8) := by
  subst hc
  obtain ⟨ap1, ap2, ap3⟩ := h.apart
  have hlt := h.lt
  have la := hlt s.a (.inl rfl)
  have lm := hlt s.m (.inr (.inr (.inr rfl)))
  have ld := fun k hk => hlt k (.inr (.inl hk))
  have lv := fun k hk => hlt k (.inr (.inr (.inl hk)))
  have z5 := h5.size
  have z6 := hgr.size
  have z7 := h7.size
  have z7b := h7b.size
  have z8 := hg8.size
  have o6 : Only (fun k => s.vd.ownBlock = some k) w5 w6 := (Only.of_grown hgr).mono (fun k _ e => e.symm)
  have o8 : Only (fun k => s.ve.ownBlock = some k) w7b w8 := (Only.of_grown hg8).mono (fun k _ e => e.symm)
  have o9 : Only (fun k => k = s.a) w8 (w8.setCell ⟨s.a, 1, none⟩ v8) := (Only.refl (fun k => k = s.a) w8).setCell (p := ⟨s.a, 1, none⟩) (.inl rfl) _
  have a5 : Only s.F w w5 := Only.of_below h5
  have a69 : Only s.F w5 (w8.setCell ⟨s.a, 1, none⟩ v8) :=
    ((((o6.mono (fun _ _ e => .inr (.inl e))).trans (h7.mono (fun _ _ e => .inl e))).trans (Only.of_below h7b)).trans (o8.mono (fun _ _ e => .inr (.inr (.inl e))))).trans (o9.mono (fun _ _ e => .inl e))
  have hall : Only s.F w (w8.setCell ⟨s.a, 1, none⟩ v8) := a5.trans a69
  have l6 : ∀ k, v6.ownBlock = some k → k < w6.heap.size := fun k hk => (h6.lt k hk).2
  have l8 : ∀ k, v8.ownBlock = some k → k < w8.heap.size := fun k hk => (h8.lt k hk).2
  have n6 : ∀ k, v6.ownBlock = some k → k ≠ s.a ∧ k ≠ s.m ∧ s.ve.ownBlock ≠ some k := fun k hk => by
    rcases hn6 k hk with e | e
    · exact ap1 k e
    · exact ⟨by omega, by omega, fun e2 => by have := lv k e2; omega⟩
  refine ⟨⟨s.a, v6, v8, s.m, s.k, s.L ++ [(⟨who, id, lo⟩, vo)]⟩, rfl, rfl, hall, ?_, he, fun F' k1 k2 => ?_⟩
  · rintro j (e | e | e | e)
    · exact .inl (.inl e)
    · rcases hn6 j e with e | e
      · exact .inl (.inr (.inl e))
      · exact .inr (by omega)
    · rcases hn8 j e with e | e
      · exact .inl (.inr (.inr (.inl e)))
      · exact .inr (by omega)
    · exact .inl (.inr (.inr (.inr e)))
  have kG : ∀ j, F' j → F j ∨ w5.heap.size ≤ j := fun j hj => by
    rcases k1 j hj with hj | hj
    · exact .inl hj
    · rcases hj with e | e | e | e
      · exact .inl (h.sub j (.inl e))
      · rcases hn6 j e with e | e
        · exact .inl (h.sub j (.inr (.inl e)))
        · exact .inr e
      · rcases hn8 j e with e | e
        · exact .inl (h.sub j (.inr (.inr (.inl e))))
        · exact .inr (by omega)
      · exact .inl (h.sub j (.inr (.inr (.inr e))))
  refine ⟨hok, ((hb7.below h7b hb7.lt).only o8 (fun e => (ap2 _ e).1 rfl)).set_ 1 v8, ?_, ?_, ?_, fun x hx => ?_, ?_, h.tk, k2, fun j hj => ?_⟩
  · have : strs (S.docs ++ [d]) = strs S.docs ++ [.string ⟨d.toArray⟩] := by simp [strs]
    rw [this, List.length_append]
    refine own_only (own_only (own_only (own_only h6 h7 (fun k hk => (n6 k hk).1)) (Only.of_below (S := fun _ => False) h7b) (fun _ _ e => e)) o8 (fun k hk e => (n6 k hk).2.2 e)) o9 (fun k hk => (n6 k hk).1)
  · have : (ens (s.L ++ [(⟨who, id, lo⟩, vo)])) = ens s.L ++ ecv (⟨who, id, lo⟩, vo) := by rw [ens_append, ens_one]
    rw [this, List.length_append]
    refine own_only h8 o9 (fun k hk e => ?_)
    rcases hn8 k hk with e2 | e2
    · exact (ap2 k e2).1 e
    · omega
  · rw [List.map_append, h.log]; rfl
  · rcases List.mem_append.1 hx with hx | hx
    · exact (h.ops x hx).only (hall.mono (fun k _ => h.sub k)) (fun j hj => (kG j hj).imp_right (fun e => by omega))
    · obtain rfl := List.mem_singleton.1 hx
      exact OpO.only (F := F) ⟨hlo.1, hloF⟩ (a69.mono (fun k _ => h.sub k)) kG
  · exact ((((((h.map.below h5).only o6 (fun e => (ap1 _ e).2.1 rfl)).only h7 (fun e => ap3 e.symm)).below h7b).only o8 (fun e => (ap2 _ e).2 rfl)).only o9 (fun e => ap3 e.symm))
  · rw [World.size_setCell]
    rcases k1 j hj with hj | hj
    · have := h.flt j hj; omega
    · rcases hj with e | e | e | e
      · dsimp only at e; omega
      · have := l6 j e; omega
      · exact l8 j e
      · dsimp only at e; omega
section
attribute [local go_sem] add_mk
set_option maxHeartbeats 8000000 in
theorem rdoes_calls {w : World} {F : Nat → Prop} {s : RSP} {S : SV} {who id rev : Int} {op : List PT} {v : Value} (h : RSrvR w F s S) (hN : S.log.length ≤ 1000) (hxo : OpO F w v op) (hp : plen op ≤ 100000) (hn : op.length ≤ 200000) :
    Calls Tryz.prog 54 #[.pointer (some ⟨s.a, 0, none⟩), .int .i64 who, .int .i64 id, .int .i64 rev, v] w (RDoesP F s (S.does who id rev op) w) := by
  obtain ⟨z0, z1, z2⟩ := three_cells h.blk
  have hl := h.len
  have HL := Hd.mk h
  have hx := hxo.sl
  have HX := Hd.mk hx
  have HXO := Hd.mk hxo
  have HLT := Hd.mk h.lt
  have HP := Hd.mk hp
  have HPP : Hd (∀ p ∈ op, p.put.length ≤ 35184372087808) := ⟨fun p hp' => by have := plen_mem' hp'; omega⟩
  obtain ⟨A, c, hv⟩ := own_form h.own
  obtain ⟨g, cd, hvd, -, -⟩ := h.docs.form (by have := h.ok.len; omega)
  rw [hv, hl] at z1
  rw [hvd] at z0
  have hsl := Sl.of_own h.own
  rw [hv, hl] at hsl
  have HSL := Hd.mk hsl
  have hsd := h.docs
  rw [hvd] at hsd
  have HSD := Hd.mk hsd
  have HLN := Hd.mk hl
  have HV := Hd.mk hv
  have HVD := Hd.mk hvd
  have HDL := Hd.mk h.ok.len
  have HIN := fun a b c W => Hd.mk (in_calls' a b c W)
  obtain ⟨Ax, cx, rfl, -⟩ := hx
  clear h hl hv hvd hsl hsd hp hxo
  by_cases h0 : rev < 0 ∨ (S.log.length : Int) < rev
  · have HD : Hd (S.does who id rev op = (2, S)) := ⟨by unfold SV.does; rw [if_pos h0]⟩
    have hdec : decide ((0 : Int) ≤ rev ∧ rev ≤ (S.log.length : Int)) = false := by rw [decide_eq_false_iff_not]; omega
    have HDEC := Hd.mk hdec
    clear h0 hdec
    go_enter Tryz.func54, Tryz.ntmps54
    go_wp2_with (go_at_call 69; refine (HIN _ _ _ _).out.mono ?_; rintro e w1 ⟨rfl, rfl⟩; rw [HDEC.out])
    go_ret
    rw [HD.out]
    exact RDoesP.same HL.out (Below.refl _ _) rfl
  have hdec : decide ((0 : Int) ≤ rev ∧ rev ≤ (S.log.length : Int)) = true := by rw [decide_eq_true_iff]; omega
  have HDEC := Hd.mk hdec
  clear hdec
  by_cases h300 : 300 ≤ S.log.length
  · have HD : Hd (S.does who id rev op = (4, S)) := ⟨by unfold SV.does; rw [if_neg h0, if_pos h300]⟩
    have h3 : (300 : Int) ≤ (S.log.length : Int) := by omega
    clear h0
    go_enter Tryz.func54, Tryz.ntmps54
    go_wp2_with (go_at_call 69; refine (HIN _ _ _ _).out.mono ?_; rintro e w1 ⟨rfl, rfl⟩; rw [HDEC.out])
    go_ret
    rw [HD.out]
    exact RDoesP.same HL.out (Below.refl _ _) rfl
  have h3 : ¬ ((300 : Int) ≤ (S.log.length : Int)) := by omega
  obtain ⟨r, rfl⟩ := Int.eq_ofNat_of_zero_le (show 0 ≤ rev by omega)
  have hrl : r ≤ S.log.length := by omega
  have HD0 : Hd (S.does who id (r : Int) op = if chk op (((S.docs[r]?).getD []).length : Nat) ≠ 0 then (chk op (((S.docs[r]?).getD []).length : Nat), S)
      else if apc (folt op (S.log.drop r)) S.doc ≠ 0 then (apc (folt op (S.log.drop r)) S.doc, S)
      else if 2000 < (apr (folt op (S.log.drop r)) S.doc).length then (12, S)
      else (0, ⟨S.docs ++ [apr (folt op (S.log.drop r)) S.doc], S.log ++ [⟨who, id, folt op (S.log.drop r)⟩], S.last, S.tk⟩)) := ⟨by
    unfold SV.does; rw [if_neg h0, if_neg h300]; rfl⟩
  obtain ⟨R, hR1, hR2, hR3⟩ := HL.out.ok.at_ hrl
  obtain ⟨dr, hdr⟩ : ∃ d, d = (S.docs[r]?).getD [] := ⟨_, rfl⟩
  have hdr2 : S.docs[r]? = some dr := by rw [hdr, hR1]; rfl
  have hnb : dr.length ≤ 2000 := by rw [hdr, hR1]; exact hR3
  have hnn : dr.length = ((S.docs[r]?).getD []).length := by rw [hdr]
  have HNN := Hd.mk hnn
  rw [← hnn] at HD0
  have hrd : r < S.docs.length := by have := HDL.out; omega
  have hcs := HSD.out.cellAt r (by omega)
  rw [show (strs S.docs)[r]? = some (.string ⟨dr.toArray⟩) from by unfold strs; rw [List.getElem?_map, hdr2]; rfl] at hcs
  have HCK := Hd.mk (rcheck_calls (m := (dr.length : Int)) HX.out HPP.out (by omega))
  have hrp : (0 : Int) ≤ (r : Int) := by omega
  have hrd' : (r : Int) < (S.docs.length : Int) := by omega
  clear hdr hdr2 hnn hR1 hR2 hR3 h300 h0
  by_cases hc : chk op (dr.length : Int) = 0
  · have HC := Hd.mk hc
    have HD1 := Hd.mk (HD0.out.trans (if_neg (fun h => h hc)))
    have HCE := Hd.mk hc
    clear hc HD0
    have HEL : Hd ((ens s.L).drop (r * 3) = ens (s.L.drop r)) := ⟨(ens_drop _ _).symm⟩
    go_enter Tryz.func54, Tryz.ntmps54
    go_wp2_with (first
      | (go_at_call 69; refine (HIN _ _ _ _).out.mono ?_; rintro e w1 ⟨rfl, rfl⟩; rw [HDEC.out])
      | (go_at_call 96; refine HCK.out.mono ?_; rintro e w2 ⟨rfl, hb2⟩; rw [HCE.out]; have HB2 := Hd.mk hb2; have x1 := hb2.cell (p := ⟨s.a, 1, none⟩) HL.out.blk.lt; rw [z1] at x1; clear hb2)
      | (refine wp_from el_rentry (k := r) rfl rfl rfl rfl (HSL.out.below HB2.out) hrl ?_; intro A1 c1 hs1 hb1; rw [HEL.out] at hs1; have HS1 := Hd.mk hs1; clear hs1 hb1))
    clear x1 z0 z1 z2 hcs
    go_loopw [4, 50] (fun vo i wr => ∃ (k : Nat) (lo : List PT), k ≤ S.log.length - r ∧ i = .int .i64 k ∧ lo = folt op ((S.log.drop r).take k) ∧ OpO F wr vo lo ∧ Below w2.heap.size w2 wr) (fun _ i _ => (S.log.length - r) - (intOf i).toNat)
    case atStart => exact ⟨0, op, Nat.zero_le _, rfl, rfl, HXO.out.below HB2.out (Grow.refl _ _), Below.refl _ _⟩
    case round =>
      obtain ⟨k, lo, hk, rfl, hlo, hso, hbel⟩ := hrel
      have HW2 := Hd.mk hbel
      have HB := Hd.mk (bstep HB2.out hbel)
      have HOO := Hd.mk hso
      have hso := hso.sl
      have HSO := Hd.mk hso
      obtain ⟨fg1, fg2, fg3⟩ := folt_good HL.out.ok (r := r) (op := op) (by rw [← HNN.out]; exact HC.out) k (by omega)
      rw [← hlo] at fg1 fg2 fg3
      by_cases hkn : k < S.log.length - r
      · have hkl : k < (s.L.drop r).length := by rw [List.length_drop, HLN.out]; exact hkn
        obtain ⟨b, o, c', hv, hbw, c0, c1', c2⟩ := (HS1.out.below hbel).entry hkn hkl
        cases hv
        have hxl : (s.L.drop r)[k] ∈ s.L := List.mem_of_mem_drop (List.getElem_mem hkl)
        have hse := (HL.out.ops _ hxl).1
        have hlog : S.log[r + k]? = some ((s.L.drop r)[k]).1 := by
          rw [← HL.out.log, List.getElem?_map, ← List.getElem?_drop, List.getElem?_eq_getElem hkl]; rfl
        have hstep : folt op ((S.log.drop r).take (k + 1)) = trl false lo ((s.L.drop r)[k]).1.op := by
          have hk3 : k < (S.log.drop r).length := by rw [List.length_drop]; exact hkn
          rw [List.take_succ_eq_append_getElem hk3, folt_snoc, ← hlo]
          have : (S.log.drop r)[k] = ((s.L.drop r)[k]).1 := by
            have h1 : (S.log.drop r)[k]? = some ((s.L.drop r)[k]).1 := by rw [List.getElem?_drop]; exact hlog
            rw [List.getElem?_eq_getElem hk3] at h1
            exact Option.some.inj h1
          rw [this]
        obtain ⟨g1, g2, g3, g4, g5, g6, g7⟩ := HL.out.ok.good hlog
        generalize (s.L.drop r)[k] = xr at *
        have hd2000 : was lo ≤ 2000 := by rw [fg2, ← g2]; exact g5
        have HTC := Hd.mk (trc_good (n := ((S.docs[r + k]?).getD []).length) fg1 g1 fg2 g2 (by omega))
        have HM1 := Hd.mk (mo_good fg1 (by omega) (by rw [fg3]; exact HP.out))
        have HM2 := Hd.mk (mo_good g1 (by omega) (by omega))
        have HST := Hd.mk hstep
        have HSE := Hd.mk (hse.below HB.out)
        obtain ⟨Ae, ce, hxe, -⟩ := hse
        rw [hxe] at c2 HSE
        obtain ⟨Ao, co, rfl, -⟩ := hso
        have hkb : k < 1000 := by omega
        clear hlo fg1 fg2 fg3 hxl hlog g1 g2 g3 g4 g5 g6 g7 hstep hd2000 hxe hbel hkl
        generalize xr.1.op = le at *
        generalize xr.1.who = xw at *
        generalize xr.1.id = xi at *
        go_wp2_with (go_at_call 97; refine (rtrans_new (first := false) (HSO.out.below (ex_alloc (Below.refl _ _) _)) (HSE.out.below (ex_alloc (Below.refl _ _) _)) HM1.out HM2.out).mono ?_; rintro e w9 ⟨⟨hb9, v9, rfl, hs9, -⟩, hf9⟩; have HS9 := Hd.mk (hs9 HTC.out); have HF9 := Hd.mk ((hf9 _ _ rfl).mono (B' := w.heap.size) (by simp only [World.size_alloc]; have := HB.out.size; omega)); clear hf9; rw [HTC.out]; have HB9 := Hd.mk ((ex_alloc (Below.refl _ _) _).trans (hb9.mono (by simp)) : Below wr.heap.size wr w9); obtain ⟨A9, c9, rfl, -⟩ := HS9.out; clear hs9 hb9)
        exact ⟨⟨k + 1, trl false lo le, by omega, by go_num, HST.out.symm, OpO.frs HS9.out HF9.out HL.out.flt, HW2.out.trans (HB9.out.mono HW2.out.size)⟩, by simp only [intOf]; omega⟩
      · obtain rfl : k = S.log.length - r := by omega
        rw [List.take_of_length_le (by rw [List.length_drop]; omega)] at hlo
        rw [show r + (S.log.length - r) = S.log.length from by omega] at fg2
        rw [← hlo] at HD1
        have HLO := Hd.mk hlo
        obtain ⟨R, hR1, hR2, hR3, hR4⟩ := HL.out.ok.doc_
        have hdl : S.doc.length ≤ 2000 := by rw [hR1]; exact hR3
        have hc0 := three_cells (HL.out.blk.below HB.out HL.out.blk.lt)
        obtain ⟨z0, z1, z2⟩ := hc0
        have HTX := Hd.mk (rstext_calls (HL.out.below HB.out) hN)
        have HPL : Hd (plen lo ≤ 100000) := ⟨by rw [fg3]; exact HP.out⟩
        have HAP := fun (W : World) (hW : Below wr.heap.size wr W) => Hd.mk (rapply_calls (s := S.doc) (HSO.out.below hW) (fun p hp' => by have := plen_mem' hp'; have := HPL.out; omega) (by have := HPL.out; omega) (by omega))
        have HFG := Hd.mk fg1
        obtain ⟨Ao, co, rfl, -⟩ := hso
        have HR1 := Hd.mk hR1
        clear fg1 fg2 fg3 hbel hR4 hlo hR1
        by_cases ha : apc lo S.doc = 0
        · have HD2 := Hd.mk (HD1.out.trans (if_neg (fun h => h ha)))
          have HAE := Hd.mk ha
          rw [HR1.out] at ha
          obtain ⟨X, hX⟩ := apc_opr hR2 ha
          have hall := rap_all hX.allP hR2
          have hap := (hX.apply hR2).2
          rw [← HR1.out] at hap
          obtain ⟨R2, hR2e⟩ : ∃ x, x = rap X R := ⟨_, rfl⟩
          rw [← hR2e] at hap hall
          have HAQ := Hd.mk hap
          clear ha hap hall hX hR2e
          by_cases h20 : 2000 < bl R2
          · have hi : (2000 : Int) < ((U.encs R2).length : Int) := by show (2000 : Int) < (bl R2 : Int); omega
            have HD3 := Hd.mk (HD2.out.trans (if_pos (by rw [HAQ.out]; exact h20)))
            clear h20
            go_wp2_with (first
              | (go_at_call 17; refine HTX.out.mono ?_; rintro e w3 ⟨rfl, hb3⟩; have HB3 := Hd.mk hb3; clear hb3)
              | (go_at_call 79; refine (HAP _ HB3.out).out.mono ?_; rintro e w4 ⟨rfl, hb4⟩; rw [HAE.out, HAQ.out]; have HB4 := Hd.mk (bstep (bstep HB.out HB3.out) hb4); clear hb4))
            go_ret
            rw [HD3.out]
            exact RDoesP.same HL.out HB4.out rfl
          · have hi : ¬ ((2000 : Int) < ((U.encs R2).length : Int)) := by show ¬ ((2000 : Int) < (bl R2 : Int)); omega
            have HD3 := Hd.mk (HD2.out.trans (if_neg (by rw [HAQ.out]; exact h20)))
            have HBL : Hd (bl R2 ≤ 2000) := ⟨by omega⟩
            rw [HAQ.out] at HD3
            clear h20
            have HAPT := HL.out.apart
            have HAPH := Hd.mk HAPT
            clear HAPT
            have how := HL.out.docs
            rw [HVD.out] at how
            have HOWD := Hd.mk how
            have hoe := HL.out.own
            rw [HV.out, HLN.out] at hoe
            have HOWE := Hd.mk hoe
            have hdb : S.docs.length ≤ 1001 := by have := HDL.out; omega
            clear how hoe
            go_upto_region 19 with (first
              | (go_at_call 17; refine HTX.out.mono ?_; rintro e w3 ⟨rfl, hb3⟩; have HB3 := Hd.mk hb3; clear hb3)
              | (go_at_call 79; refine (HAP _ HB3.out).out.mono ?_; rintro e w4 ⟨rfl, hb4⟩; rw [HAE.out, HAQ.out]; have HB4 := Hd.mk (bstep (bstep HB.out HB3.out) hb4); have HR4 := Hd.mk (bstep HB3.out hb4); have hbk := HL.out.blk.below HB4.out HL.out.blk.lt; have HBK4 := Hd.mk hbk; obtain ⟨z0, z1, z2⟩ := three_cells hbk; rw [HVD.out] at z0; rw [HV.out, HLN.out] at z1; have HOWD4 := Hd.mk (own_only HOWD.out (Only.of_below (S := fun _ => False) HB4.out) (fun _ _ e => e)); clear hb4 hbk)
              | (at_builtin; refine append_lit' el_str #[.string ⟨(U.encs R2).toArray⟩] HOWD4.out rfl rfl rfl rfl (by simp) rfl (one1 rfl) (by unfold maxLen; omega) (by omega) (Nat.zero_le _) ?_; intro v6 w6 hown6 hbel6 hgr6 hnew6; have HO6 := Hd.mk hown6; obtain ⟨A6, c6, rfl⟩ := own_form hown6; have HGR6 := Hd.mk hgr6; have HNW6 := Hd.mk hnew6; have hbk6 := HBK4.out.only (Only.of_grown hgr6) (fun e => (HAPH.out.1 s.a (by rw [HVD.out]; exact e.symm)).1 rfl); have HBK6 := Hd.mk hbk6; obtain ⟨y0, y1, y2⟩ := three_cells hbk6; have yf := hbk6.frozen; have yl := hbk6.lt; rw [HVD.out] at y0; rw [HV.out, HLN.out] at y1; clear hown6 hbel6 hgr6 hnew6 hbk6))
            obtain ⟨w7, hw7⟩ : ∃ W, W = w6.setCell ⟨s.a, 0, none⟩ (.slice A6 (S.docs.length + 1) c6) := ⟨_, rfl⟩
            have hbk7 : Blk w7 s.a 50 #[.slice A6 (S.docs.length + 1) c6, s.ve, .map (some s.m)] := by rw [hw7]; exact HBK6.out.set_ 0 _
            have ho7 : Only (fun k => k = s.a) w6 w7 := by rw [hw7]; exact (Only.refl (fun k => k = s.a) w6).setCell (p := ⟨s.a, 0, none⟩) (.inl rfl) _
            rw [← hw7]
            clear hw7 y0 y1 y2 yf yl
            have HBK7 := Hd.mk hbk7
            have HO7 := Hd.mk ho7
            have HOWE7 := Hd.mk (own_only (own_only (own_only HOWE.out (Only.of_below (S := fun _ => False) HB4.out) (fun _ _ e => e)) ((Only.of_grown HGR6.out).mono (S' := fun k => s.vd.ownBlock = some k) (fun k _ e => by rw [HVD.out]; exact e.symm)) (fun k hk e => (HAPH.out.1 k e).2.2 (by rw [HV.out, HLN.out]; exact hk))) ho7 (fun k hk => (HAPH.out.2.1 k (by rw [HV.out, HLN.out]; exact hk)).1))
            obtain ⟨y0, y1, y2⟩ := three_cells hbk7
            rw [HV.out, HLN.out] at y1
            have yf := hbk7.frozen
            have yl := hbk7.lt
            clear hbk7 ho7
            go_wp2_with (at_builtin; refine append_lit' el_rentry #[.int .i64 who, .int .i64 id, .slice Ao lo.length co] HOWE7.out rfl rfl rfl rfl (by simp) rfl (one3 rfl rfl rfl) (by unfold maxLen; omega) (by omega) (Nat.zero_le _) ?_; intro v8 w8 hown8 hbel8 hgr8 hnew8; have HO8 := Hd.mk hown8; obtain ⟨A8, c8, rfl⟩ := own_form hown8; have HGR8 := Hd.mk hgr8; have HNW8 := Hd.mk hnew8; have hbk8 := HBK7.out.only (Only.of_grown hgr8) (fun e => (HAPH.out.2.1 s.a (by rw [HV.out, HLN.out]; exact e.symm)).1 rfl); obtain ⟨x0, x1, x2⟩ := three_cells hbk8; have xf := hbk8.frozen; have xl := hbk8.lt; rw [HV.out, HLN.out] at x1; clear hown8 hbel8 hgr8 hnew8 hbk8)
            go_ret
            rw [HD3.out]
            have hok := HL.out.ok.does who id (r : Int) op
            rw [HD3.out] at hok
            have hoo := HOO.out.below HR4.out (Grow.refl _ _)
            exact HL.out.push hok HB4.out (by rw [HVD.out]; exact HGR6.out) (fun k hk => by rw [HVD.out]; exact HNW6.out k hk) HO6.out HO7.out HBK7.out (Below.refl _ _) (by rw [HLN.out]; exact HO8.out) (by rw [HV.out, HLN.out]; exact HGR8.out) (fun k hk => by rw [HV.out, HLN.out]; exact HNW8.out k hk) (hoo.sub HL.out.sub) hoo.2 rfl rfl
        · have HD2 := Hd.mk (HD1.out.trans (if_pos ha))
          have hab : (apc lo S.doc == 0) = false := by rw [beq_eq_false_iff_ne]; exact ha
          clear ha
          go_wp2_with (first
            | (go_at_call 17; refine HTX.out.mono ?_; rintro e w3 ⟨rfl, hb3⟩; have HB3 := Hd.mk hb3; clear hb3)
            | (go_at_call 79; refine (HAP _ HB3.out).out.mono ?_; rintro e w4 ⟨rfl, hb4⟩; have HB4 := Hd.mk (bstep (bstep HB.out HB3.out) hb4); clear hb4))
          go_ret
          rw [HD2.out]
          exact RDoesP.same HL.out HB4.out rfl
  · have HC := Hd.mk hc
    have HD1 := Hd.mk (HD0.out.trans (if_pos hc))
    have hcb : (chk op (dr.length : Int) == 0) = false := by rw [beq_eq_false_iff_ne]; exact hc
    clear hc HD0
    go_enter Tryz.func54, Tryz.ntmps54
    go_wp2_with (first
      | (go_at_call 69; refine (HIN _ _ _ _).out.mono ?_; rintro e w1 ⟨rfl, rfl⟩; rw [HDEC.out])
      | (go_at_call 96; refine HCK.out.mono ?_; rintro e w2 ⟨rfl, hb2⟩; have HB2 := Hd.mk hb2; clear hb2))
    go_ret
    rw [HD1.out]
    exact RDoesP.same HL.out HB2.out rfl
end
end Go.Proofs.YtdgdajnbkfmijaaGreatDoor
