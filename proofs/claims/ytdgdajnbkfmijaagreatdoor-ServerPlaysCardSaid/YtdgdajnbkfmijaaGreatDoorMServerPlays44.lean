/- Several texts of the proof, one behind the other: RSrvE, RSrvN. -/
import Derived.Test.YtdgdajnbkfmijaaGreatDoorMServerPlays43
import Derived.Test.YtdgdajnbkfmijaaGreatDoorMServerPlays16
/- The reference's server: Take, NewServer. -/
namespace Go.Proofs.YtdgdajnbkfmijaaGreatDoor
open Go.RowKit Go.Sort
set_option maxRecDepth 100000
theorem zero_arr (w : World) : (zeroValue 52).run Tryz.prog w = .ok (.agg #[.int .i64 0, .int .i64 0]) w := by kernel_rfl
theorem RSrvR.stored {w w3 w4 : World} {F : Nat → Prop} {s : RSP} {S : SV} {M : Int → Option (Int × Int)} (h : RSrvR w F s S) (hb : Below w.heap.size w w3) (hm : Mp w4 s.m (s.k + 1) M) (ho : Only (fun k => k = s.m) w3 w4) :
    RSrvR w4 F { s with k := s.k + 1 } { S with last := M, tk := S.tk + 1 } := by
  have h3 := h.below hb
  obtain ⟨ap1, ap2, ap3⟩ := h3.apart
  have hns : ∀ j, j = s.m → F j := fun j e => h.sub j (.inr (.inr (.inr e)))
  exact ⟨⟨h3.ok.len, h3.ok.txt, h3.ok.step⟩, h3.blk.only ho ap3, own_only h3.docs ho (fun k hk => (ap1 k hk).2.1), own_only h3.own ho (fun k hk => (ap2 k hk).2), h3.log,
    h3.ops.only (ho.mono (fun k _ => hns k)) (Grow.refl _ _), hm, by have := h3.tk; dsimp only; omega, h3.sub, fun j hj => Nat.lt_of_lt_of_le (h3.flt j hj) ho.size⟩
/-- What Take leaves, where an operation is new. -/
theorem RDoesP.fresh {w w1 w2 w3 w4 : World} {F : Nat → Prop} {s s' : RSP} {S : SV} {who id rev : Int} {op : List PT} {c : Int} {e : Ending} (hb1 : Below w.heap.size w w1) (ha : s'.a = s.a) (hm : s'.m = s.m) (ho : Only s.F w1 w2) (hg : Grow s.F s'.F w1.heap.size)
    (hS : ∀ F', (∀ j, F' j → F j ∨ s'.F j) → (∀ j, s'.F j → F' j) → RSrvR w2 F' s' (S.does who id rev op).2) (hb3 : Below w2.heap.size w2 w3) (hm4 : Mp w4 s'.m (s'.k + 1) (mput (S.does who id rev op).2.last who (id, c))) (ho4 : Only (fun k => k = s'.m) w3 w4)
    (hc : c = (S.does who id rev op).1) (he : e = .returned (.int .i64 c)) (hsm : s.F s.m) : RDoesP F s (S.fresh who id rev op) w e w4 := by
  obtain ⟨l1, l2⟩ := S.does_last who id rev op
  refine ⟨{ s' with k := s'.k + 1 }, ha, hm, (((Only.of_below hb1).trans ho).trans (Only.of_below hb3)).trans (ho4.mono (fun k _ e => by rw [e, hm]; exact hsm)), hg.mono hb1.size, ?_, fun F' k1 k2 => ?_⟩
  · rw [he, hc]; rfl
  · have := (hS F' k1 k2).stored hb3 hm4 ho4
    unfold SV.fresh
    rw [l1] at this
    rw [l2] at this
    rw [hc] at this
    exact this
set_option maxHeartbeats 8000000 in
theorem rtake_calls {w : World} {F : Nat → Prop} {s : RSP} {S : SV} {who id rev : Int} {op : List PT} {v : Value} (h : RSrvR w F s S) (hN : S.log.length ≤ 1000) (hT : S.tk ≤ 1000000000) (hwho : (Lit.int .i64 who).wf = true) (hxo : OpO F w v op) (hp : plen op ≤ 100000) (hn : op.length ≤ 200000) :
    Calls Tryz.prog 13 #[.pointer (some ⟨s.a, 0, none⟩), .int .i64 who, .int .i64 id, .int .i64 rev, v] w (RDoesP F s (S.take who id rev op) w) := by
  obtain ⟨z0, z1, z2⟩ := three_cells h.blk
  have HL := Hd.mk h
  have HX := Hd.mk hxo
  have HW := Hd.mk hwho
  have HP := Hd.mk hp
  have HM := Hd.mk h.map
  have HTK := Hd.mk hT
  obtain ⟨⟨Ax, cx, rfl, -⟩, -⟩ := hxo
  clear h hwho hp z0 z1 hT
  obtain ⟨o, ho⟩ : ∃ o, o = S.last who := ⟨_, rfl⟩
  cases o with
  | none =>
    have HT : Hd (S.take who id rev op = S.fresh who id rev op) := ⟨by unfold SV.take; rw [← ho]⟩
    have HO := Hd.mk ho
    clear ho
    go_enter Tryz.func13, Tryz.ntmps13
    go_upto_region 7 with (first
      | (at_lookup; refine wp_look_ok rfl rfl Tryz.underlying48 (zero_arr _) rfl rfl HW.out HM.out ?_; rw [← HO.out]; unfold prV)
      | (go_at_call 54; refine (rdoes_calls (HL.out.below (ex_alloc (Below.refl _ _) _)) hN (HX.out.below (ex_alloc (Below.refl _ _) _) (Grow.refl _ _)) HP.out hn).mono ?_; rintro e w2 hd; obtain ⟨s', ha, hm, ho2, hgr, rfl, hS⟩ := hd))
    have HS := Hd.mk hS
    have HS1 := Hd.mk (hS (fun j => F j ∨ s'.F j) (fun _ e => e) (fun _ e => .inr e))
    have HA := Hd.mk ha
    have HMM := Hd.mk hm
    have HO2 := Hd.mk ho2
    have HGR := Hd.mk hgr
    obtain ⟨c, hc⟩ : ∃ c, c = (S.does who id rev op).1 := ⟨_, rfl⟩
    rw [← hc]
    have HC := Hd.mk hc
    have hblk := HS1.out.blk
    rw [ha] at hblk
    obtain ⟨x0, x1, x2⟩ := three_cells hblk
    have xl := hblk.lt
    have HTKb : Hd (s'.k < maxLen) := ⟨by have h1 := HS1.out.tk; have h2 := (S.does_last who id rev op).2; have h3 := HTK.out; unfold maxLen; omega⟩
    clear hS ha hm ho2 hgr hc hblk x0 x1 z2
    go_wp2_with (at_mapUpdate; refine wp_mput rfl rfl Tryz.underlying48 HTKb.out rfl rfl rfl HW.out HS1.out.map ?_; intro w4 hM4 hO4 hz4; have HM4 := Hd.mk hM4; have HO4 := Hd.mk hO4; clear hM4 hO4)
    go_ret
    rw [HT.out]
    exact RDoesP.fresh (ex_alloc (Below.refl _ _) _) HA.out HMM.out HO2.out HGR.out HS.out (Below.refl _ _) HM4.out HO4.out HC.out rfl (.inr (.inr (.inr rfl)))
  | some p =>
    obtain ⟨i, k⟩ := p
    by_cases h1 : id < i
    · have HT : Hd (S.take who id rev op = (8, S)) := ⟨by unfold SV.take; rw [← ho]; dsimp only; rw [if_pos h1]⟩
      have h1b : id ≤ i := by omega
      have HO := Hd.mk ho
      clear ho
      go_enter Tryz.func13, Tryz.ntmps13
      go_wp2_with (at_lookup; refine wp_look_ok rfl rfl Tryz.underlying48 (zero_arr _) rfl rfl HW.out HM.out ?_; rw [← HO.out]; unfold prV)
      go_ret
      rw [HT.out]
      exact RDoesP.same HL.out (ex_alloc (Below.refl _ _) _) rfl
    by_cases h2 : id = i
    · subst h2
      have HT : Hd (S.take who id rev op = (k, S)) := ⟨by unfold SV.take; rw [← ho]; dsimp only; rw [if_neg h1, if_pos rfl]⟩
      have HO := Hd.mk ho
      clear ho
      go_enter Tryz.func13, Tryz.ntmps13
      go_wp2_with (at_lookup; refine wp_look_ok rfl rfl Tryz.underlying48 (zero_arr _) rfl rfl HW.out HM.out ?_; rw [← HO.out]; unfold prV)
      go_ret
      rw [HT.out]
      exact RDoesP.same HL.out (ex_alloc (Below.refl _ _) _) rfl
    · have HT : Hd (S.take who id rev op = S.fresh who id rev op) := ⟨by unfold SV.take; rw [← ho]; dsimp only; rw [if_neg h1, if_neg h2]⟩
      have h3 : ¬ id ≤ i := by omega
      have HO := Hd.mk ho
      clear ho h1 h2
      go_enter Tryz.func13, Tryz.ntmps13
      go_upto_region 7 with (first
        | (at_lookup; refine wp_look_ok rfl rfl Tryz.underlying48 (zero_arr _) rfl rfl HW.out HM.out ?_; rw [← HO.out]; unfold prV)
        | (go_at_call 54; refine (rdoes_calls (HL.out.below (ex_alloc (Below.refl _ _) _)) hN (HX.out.below (ex_alloc (Below.refl _ _) _) (Grow.refl _ _)) HP.out hn).mono ?_; rintro e w2 hd; obtain ⟨s', ha, hm, ho2, hgr, rfl, hS⟩ := hd))
      have HS := Hd.mk hS
      have HS1 := Hd.mk (hS (fun j => F j ∨ s'.F j) (fun _ e => e) (fun _ e => .inr e))
      have HA := Hd.mk ha
      have HMM := Hd.mk hm
      have HO2 := Hd.mk ho2
      have HGR := Hd.mk hgr
      obtain ⟨c, hc⟩ : ∃ c, c = (S.does who id rev op).1 := ⟨_, rfl⟩
      rw [← hc]
      have HC := Hd.mk hc
      have hblk := HS1.out.blk
      rw [ha] at hblk
      obtain ⟨x0, x1, x2⟩ := three_cells hblk
      have xl := hblk.lt
      have HTKb : Hd (s'.k < maxLen) := ⟨by have h1 := HS1.out.tk; have h2 := (S.does_last who id rev op).2; have h3 := HTK.out; unfold maxLen; omega⟩
      clear hS ha hm ho2 hgr hc hblk x0 x1 z2
      go_wp2_with (at_mapUpdate; refine wp_mput rfl rfl Tryz.underlying48 HTKb.out rfl rfl rfl HW.out HS1.out.map ?_; intro w4 hM4 hO4 hz4; have HM4 := Hd.mk hM4; have HO4 := Hd.mk hO4; clear hM4 hO4)
      go_ret
      rw [HT.out]
      exact RDoesP.fresh (ex_alloc (Below.refl _ _) _) HA.out HMM.out HO2.out HGR.out HS.out (Below.refl _ _) HM4.out HO4.out HC.out rfl (.inr (.inr (.inr rfl)))
end Go.Proofs.YtdgdajnbkfmijaaGreatDoor
/- The reference's NewServer. -/
namespace Go.Proofs.YtdgdajnbkfmijaaGreatDoor
open Go.RowKit Go.Sort
set_option maxRecDepth 100000
def RSNewPost (rs : List Int) (rest : U.Bs) (w : World) (e : Ending) (w' : World) : Prop :=
  Below w.heap.size w w' ∧ (rest ≠ [] → e = .returned (.tuple #[.pointer none, .agg #[.int .i64 3, .int .i64 (bl rs)]])) ∧
    (rest = [] → 2000 < bl rs → e = .returned (.tuple #[.pointer none, .agg #[.int .i64 12, .int .i64 (-1)]])) ∧
    (rest = [] → bl rs ≤ 2000 → ∃ s : RSP, e = .returned (.tuple #[.pointer (some ⟨s.a, 0, none⟩), .agg #[.int .i64 0, .int .i64 (-1)]]) ∧ (∀ j, s.F j → w.heap.size ≤ j) ∧ RSrvR w' s.F s (SV.new (U.encs rs)))
theorem RSrvR.widen {w : World} {F F' : Nat → Prop} {s : RSP} {S : SV} (h : RSrvR w F s S) (hs : ∀ j, F j → F' j) (hl : ∀ j, F' j → j < w.heap.size) (ho : S.log = []) : RSrvR w F' s S := by
  have hL : s.L = [] := by have := h.len; rw [ho] at this; exact List.length_eq_zero_iff.1 this
  exact ⟨h.ok, h.blk, h.docs, h.own, h.log, fun x hx => by rw [hL] at hx; simp at hx, h.map, h.tk, fun j hj => hs j (h.sub j hj), hl⟩
theorem own_one {w : World} {t : TypeId} (u : Value) : (w.alloc (.cells #[u] t)).ownsRow 0 t 1 (.slice (some ⟨w.heap.size, 0, none⟩) 1 1) 1 [u] :=
  ⟨by simp, .inr ⟨w.heap.size, 1, #[u], rfl, Nat.zero_le _, heap_alloc_new w _, Nat.le_refl _, by unfold maxLen; omega, by simp, by simp⟩⟩
theorem rnew_F {n : Nat} : ∀ j, (RSP.mk (n + 1 + 1) (.slice (some ⟨n, 0, none⟩) 1 1) (.slice none 0 0) (n + 1) 0 []).F j → n ≤ j ∧ j ≤ n + 2 := by
  rintro j (e | e | e | e)
  · dsimp only at e; omega
  · have : n = j := Option.some.inj e
    omega
  · cases e
  · dsimp only at e; omega
theorem rnew_laid {W0 : World} {n : Nat} (hn : W0.heap.size = n) {rs : List Int} (hall : U.AllR rs) (hbl : bl rs ≤ 2000) :
    RSrvR (((W0.alloc (.cells #[.string ⟨(U.encs rs).toArray⟩] 9)).alloc (.map #[] 0)).alloc (.cells #[.slice (some ⟨n, 0, none⟩) 1 1, .slice none 0 0, .map (some (n + 1))] 50))
      (RSP.mk (n + 1 + 1) (.slice (some ⟨n, 0, none⟩) 1 1) (.slice none 0 0) (n + 1) 0 []).F (RSP.mk (n + 1 + 1) (.slice (some ⟨n, 0, none⟩) 1 1) (.slice none 0 0) (n + 1) 0 []) (SV.new (U.encs rs)) := by
  subst hn
  refine ⟨SVok.new hall hbl, ?_, ?_, World.ownsRow_nil _ _ _ _, rfl, fun x hx => by simp at hx, ?_, Nat.le_refl _, fun _ h => h, fun j hj => ?_⟩
  · have := Blk.new ((W0.alloc (.cells #[.string ⟨(U.encs rs).toArray⟩] 9)).alloc (.map #[] 0)) 50 #[.slice (some ⟨W0.heap.size, 0, none⟩) 1 1, .slice none 0 0, .map (some (W0.heap.size + 1))]
    rw [World.size_alloc, World.size_alloc] at this
    exact this
  · exact own_only (own_one (w := W0) (t := 9) (.string ⟨(U.encs rs).toArray⟩)) (Only.of_below (S := fun _ => False) (ex_alloc (ex_alloc (Below.refl _ _) _) _)) (fun _ _ e => e)
  · have := Mp.new (W0.alloc (.cells #[.string ⟨(U.encs rs).toArray⟩] 9))
    rw [World.size_alloc] at this
    exact this.below (ex_alloc (Below.refl _ _) _)
  · have := rnew_F j hj
    simp
    omega
set_option maxHeartbeats 4000000 in
theorem rsnew_calls {s : U.Bs} {rs : List Int} {rest : U.Bs} (hsp : U.Sp s rs rest) (hs : s.length ≤ 1000000) (w : World) :
    Calls Tryz.prog 8 #[.string ⟨s.toArray⟩] w (RSNewPost rs rest w) := by
  have HC := fun W => Hd.mk (rcount_calls hsp W (by omega))
  have HALL := Hd.mk hsp.all
  have hmm := @run_makeMap Tryz.prog
  have hoff : U.off rs rs.length = bl rs := U.off_full rs
  have HOF := Hd.mk hoff
  have HBR := fun k W => Hd.mk (bareR_calls k W)
  by_cases hr : rest = []
  · subst hr
    obtain rfl : s = U.encs rs := by have := hsp.eq; simpa using this
    by_cases hbl : 2000 < bl rs
    · have hi : (2000 : Int) < ((U.encs rs).length : Int) := by show (2000 : Int) < (bl rs : Int); omega
      have HBL := Hd.mk hbl
      clear hsp hoff hbl hs
      go_enter Tryz.func8, Tryz.ntmps8
      go_wp2_with (first
        | (go_at_call 49; refine (HC _).out.mono ?_; rintro e w1 ⟨hb1, hok, -⟩; obtain rfl := hok rfl; unfold fltV; have HB1 := Hd.mk ((ex_alloc (Below.refl _ _) _).trans (hb1.mono (by simp)) : Below w.heap.size w w1); have HK1 := Hd.mk ((Blk.new w 31 #[.int .i64 0, .int .i64 0]).below hb1 (by simp)); clear hb1 hok)
        | (go_at_call 50; refine (HBR _ _).out.mono ?_; rintro e w2 ⟨rfl, hb2⟩; have HB2 := Hd.mk (bstep (ex_alloc (ex_alloc HB1.out _) _) hb2); have hk2 := ((HK1.out.alloc _).alloc _).below hb2 (by simp; have := HK1.out.lt; omega); have HK2 := Hd.mk hk2; have k0 := hk2.cell 0; have k1 := hk2.cell 1; simp only [List.getElem?_toArray, List.getElem?_cons_zero, List.getElem?_cons_succ] at k0 k1; have kf := hk2.frozen; have kl := hk2.lt; clear hb2 hk2))
      refine HK2.out.set2 (F := fun W => bodyPost _ _ _ Exit.ret _ W) ?_
      intro w3 hC3 hB3 _ _
      have g0 := hC3.cell 0
      have g1 := hC3.cell 1
      simp only [List.getElem?_toArray, List.getElem?_cons_zero, List.getElem?_cons_succ] at g0 g1
      refine bodyPost_ret (v := .tuple #[.pointer none, .agg #[.int .i64 12, .int .i64 (-1)]]) (by simp [results, Tryz.results8, go_sem, g0, g1]) rfl ?_
      exact ⟨HB2.out.trans (hB3 _ (Nat.le_refl _)), fun h => absurd rfl h, fun _ _ => rfl, fun _ h => absurd HBL.out (by omega)⟩
    · have hi : ¬ ((2000 : Int) < ((U.encs rs).length : Int)) := by show ¬ ((2000 : Int) < (bl rs : Int)); omega
      have HBL : Hd (bl rs ≤ 2000) := ⟨by omega⟩
      clear hsp hoff hbl hs
      go_enter Tryz.func8, Tryz.ntmps8
      go_wp2_with (first
        | (go_at_call 49; refine (HC _).out.mono ?_; rintro e w1 ⟨hb1, hok, -⟩; obtain rfl := hok rfl; unfold fltV; have HB1 := Hd.mk ((ex_alloc (Below.refl _ _) _).trans (hb1.mono (by simp)) : Below w.heap.size w w1); have HK1 := Hd.mk ((Blk.new w 31 #[.int .i64 0, .int .i64 0]).below hb1 (by simp)); clear hb1 hok)
        | (go_at_call 50; refine (HBR _ _).out.mono ?_; rintro e w2 ⟨rfl, hb2⟩; have hz1 := HB1.out.size; have hlk := HK1.out.lt; have hx := (ex_alloc (ex_alloc (ex_alloc (ex_alloc (ex_alloc (Below.refl w1.heap.size w1) (.cells #[.int .i64 (cnt rs).b, .int .i64 (cnt rs).h, .int .i64 (cnt rs).r, .int .i64 (cnt rs).l] 63)) (.cells #[.int .i64 0, .int .i64 (-1)] 31)) (.cells #[.string ⟨(U.encs rs).toArray⟩] 9)) (.map #[] 0)) (.cells #[.slice (some ⟨w1.heap.size + 1 + 1, 0, none⟩) 1 1, .slice none 0 0, .map (some (w1.heap.size + 1 + 1 + 1))] 50)); have hy := bstep hx hb2; have HB2 := Hd.mk (bstep HB1.out hy); have HRS := Hd.mk ((rnew_laid (W0 := (w1.alloc (.cells #[.int .i64 (cnt rs).b, .int .i64 (cnt rs).h, .int .i64 (cnt rs).r, .int .i64 (cnt rs).l] 63)).alloc (.cells #[.int .i64 0, .int .i64 (-1)] 31)) (n := w1.heap.size + 1 + 1) (by simp) HALL.out HBL.out).below hb2); have hk2 := HK1.out.below hy hlk; have HK2 := Hd.mk hk2; have k0 := hk2.cell 0; have k1 := hk2.cell 1; simp only [List.getElem?_toArray, List.getElem?_cons_zero, List.getElem?_cons_succ] at k0 k1; have kf := hk2.frozen; have kl := hk2.lt; have HZ1 := Hd.mk hz1; have HKL := Hd.mk hlk; clear hb2 hk2 hx hy hz1 hlk))
      refine HK2.out.set2 (F := fun W => bodyPost _ _ _ Exit.ret _ W) ?_
      intro w3 hC3 hB3 hz3 hK3
      have g0 := hC3.cell 0
      have g1 := hC3.cell 1
      simp only [List.getElem?_toArray, List.getElem?_cons_zero, List.getElem?_cons_succ] at g0 g1
      refine bodyPost_ret (v := .tuple #[.pointer (some ⟨w1.heap.size + 1 + 1 + 1 + 1, 0, none⟩), .agg #[.int .i64 0, .int .i64 (-1)]]) (by simp [results, Tryz.results8, go_sem, g0, g1]) rfl ?_
      have hO : Only (fun k => k = w.heap.size) w2 w3 := ⟨(hB3 0 (Nat.zero_le _)).os, (hB3 0 (Nat.zero_le _)).tape, (hB3 0 (Nat.zero_le _)).output, by omega, fun k _ hk => hK3 k hk⟩
      have hz1 := HZ1.out
      have hkl := HKL.out
      refine ⟨HB2.out.trans (hB3 _ (Nat.le_refl _)), fun h => absurd rfl h, fun _ h => absurd h (by have := HBL.out; omega), fun _ _ => ⟨RSP.mk (w1.heap.size + 1 + 1 + 1 + 1) (.slice (some ⟨w1.heap.size + 1 + 1, 0, none⟩) 1 1) (.slice none 0 0) (w1.heap.size + 1 + 1 + 1) 0 [], rfl, fun j hj => by have := rnew_F j hj; omega, ?_⟩⟩
      have hR := HRS.out
      refine ⟨hR.ok, hR.blk.only hO (by dsimp only; omega), own_only hR.docs hO (fun k hk e => by have := (rnew_F k (.inr (.inl hk))).1; omega), own_only hR.own hO (fun k hk e => by cases hk), hR.log, fun x hx => by simp at hx, hR.map.only hO (by dsimp only; omega), hR.tk, hR.sub, fun j hj => by rw [hz3]; exact hR.flt j hj⟩
  · have HRR := Hd.mk hr
    clear hsp hoff hs hr
    go_enter Tryz.func8, Tryz.ntmps8
    go_wp2_with (go_at_call 49; refine (HC _).out.mono ?_; rintro e w1 ⟨hb1, -, hok⟩; obtain rfl := hok HRR.out; rw [HOF.out]; unfold fltV; have HB1 := Hd.mk ((ex_alloc (Below.refl _ _) _).trans (hb1.mono (by simp)) : Below w.heap.size w w1); have hk1 := ((Blk.new w 31 #[.int .i64 0, .int .i64 0]).below hb1 (by simp)); have HK1 := Hd.mk hk1; have k0 := hk1.cell 0; have k1 := hk1.cell 1; simp only [List.getElem?_toArray, List.getElem?_cons_zero, List.getElem?_cons_succ] at k0 k1; have kf := hk1.frozen; have kl := hk1.lt; clear hb1 hok hk1)
    go_region
    all_goals
      go_wp2_with fail
      refine (?_ : ∀ W, Blk W w.heap.size 31 #[.int .i64 3, .int .i64 (bl rs)] → Below w.heap.size w W → bodyPost _ _ _ Exit.ret _ W) _ ((((HK1.out.set_ 0 (.int .i64 3)).set_ 1 (.int .i64 (bl rs))).alloc _).alloc _) (ex_drew (ex_alloc (ex_alloc ((HB1.out.setCell (p := ⟨w.heap.size, 0, none⟩) (Nat.le_refl _) _).setCell (p := ⟨w.heap.size, 1, none⟩) (Nat.le_refl _) _) _) _))
      intro W hC3 hBW
      have g0 := hC3.cell 0
      have g1 := hC3.cell 1
      simp only [List.getElem?_toArray, List.getElem?_cons_zero, List.getElem?_cons_succ] at g0 g1
      refine bodyPost_ret (v := .tuple #[.pointer none, .agg #[.int .i64 3, .int .i64 (bl rs)]]) (by simp [results, Tryz.results8, go_sem, g0, g1]) rfl ?_
      exact ⟨hBW, fun _ => rfl, fun h => absurd h HRR.out, fun h => absurd h HRR.out⟩
end Go.Proofs.YtdgdajnbkfmijaaGreatDoor
