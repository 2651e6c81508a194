/- The walk of the law RoomSeen. -/
import Derived.Test.YtdgdajnbkfmijaaGreatDoorMRoomMeets48
namespace Go.Proofs.YtdgdajnbkfmijaaGreatDoor
open Go.RowKit Go.Sort
set_option maxRecDepth 100000
theorem el_strsR : El Tryz.prog 46 9 1 16 := El.mk' Tryz.underlying46 (by kernel_rfl) (by decide)
def sts (l : List U.Bs) : List Value := l.map fun d => .string ⟨d.toArray⟩
theorem sts_length (l : List U.Bs) : (sts l).length = l.length := by unfold sts; rw [List.length_map]
theorem sts_append (a b : List U.Bs) : sts (a ++ b) = sts a ++ sts b := by unfold sts; rw [List.map_append]
theorem sts_at {l : List U.Bs} {k : Nat} {d : U.Bs} (h : l[k]? = some d) : (sts l)[k]? = some (.string ⟨d.toArray⟩) := by unfold sts; rw [List.getElem?_map, h]; rfl
theorem str_one (d : U.Bs) : ∀ u ∈ ([.string ⟨d.toArray⟩] : List Value), u.oneCell' = true := by
  intro u hu
  obtain rfl := List.mem_singleton.1 hu
  rfl
/-- All that may turn of a room and of the list of the documents that were. -/
def WF (r : RP) (wv : Value) (j : Nat) : Prop := r.F j ∨ wv.ownBlock = some j
/-- A room of the law's own, and what the documents were. -/
structure RsI (w wr : World) (ra : Nat) (R : RM) (r : RP) (wv : Value) (D : List U.Bs) : Prop where
  rm : RmR wr (WF r wv) r R
  a : r.a = ra
  bel : Below w.heap.size w wr
  new : ∀ j, WF r wv j → w.heap.size ≤ j
  own : wr.ownsRow w.heap.size 9 1 wv D.length (sts D)
  ap : ∀ g, wv.ownBlock = some g → ¬ r.F g
section
variable {w wr w2 w3 w' : World} {ra : Nat} {R R' : RM} {r : RP} {wv v3 : Value} {D : List U.Bs} {d : U.Bs}
theorem RsI.below (h : RsI w wr ra R r wv D) (hb : Below wr.heap.size wr w') : RsI w w' ra R r wv D :=
  ⟨h.rm.below hb, h.a, bstep h.bel hb, h.new, own_only h.own (Only.of_below (S := fun _ => False) hb) (fun _ _ e => e), h.ap⟩
theorem RsI.play (h : RsI w wr ra R r wv D) (hs : RmS (WF r wv) r R' wr w') : ∃ r', RsI w w' ra R' r' wv D := by
  obtain ⟨r1, a1, a2, a3, a4, a5⟩ := hs
  have z := h.bel.size
  have hnew : ∀ j, r.F j → w.heap.size ≤ j := fun j hj => h.new j (.inl hj)
  refine ⟨r1, a5 (WF r1 wv) (fun j hj => hj.elim .inr (fun e => .inl (.inr e))) (fun j hj => .inl hj), a1.1.trans h.a, ⟨a3.os.trans h.bel.os, a3.tape.trans h.bel.tape, a3.output.trans h.bel.output, Nat.le_trans z a3.size, fun k hk => (a3.block k (by omega) (fun e => by have := hnew k e; omega)).trans (h.bel.block k hk)⟩,
    fun j hj => hj.elim (fun e => (a4 j e).elim (hnew j) (fun e => by omega)) (fun e => h.new j (.inr e)), own_only h.own a3 h.ap, fun g hg e => (a4 g e).elim (h.ap g hg) (fun e => by have := (h.own.lt g hg).2; omega)⟩
theorem RsI.push (h : RsI w wr ra R r wv D) (hb : Below wr.heap.size wr w2) (h3 : w3.ownsRow w.heap.size 9 1 v3 (D.length + 1) (sts D ++ [.string ⟨d.toArray⟩])) (hg : w2.grownBy w3 wv.ownBlock) (hn : ∀ k, v3.ownBlock = some k → wv.ownBlock = some k ∨ w2.heap.size ≤ k) : RsI w w3 ra R r v3 (D ++ [d]) := by
  have h2 := h.below hb
  have hO := Only.of_grown hg
  have z2 := h2.bel.size
  have hfl := h2.rm.flt
  have hO' : Only (fun k => wv.ownBlock = some k) w2 w3 := hO.mono (fun k _ e => e.symm)
  refine ⟨h2.rm.only hO' (fun j hj => .inr hj) (fun j hj e => h2.ap j e hj) (fun j hj => hj.elim (fun e => .inl (.inl e)) (fun e => (hn j e).imp_left (fun e => .inr e))) (fun j hj => .inl hj) (fun j hj => hj.elim (fun e => Nat.lt_of_lt_of_le (hfl j (.inl e)) hO.size) (fun e => (h3.lt j e).2)), h.a,
    ⟨hO.os.trans h2.bel.os, hO.tape.trans h2.bel.tape, hO.output.trans h2.bel.output, Nat.le_trans z2 hO.size, fun k hk => (hO'.block k (by omega) (fun e => by have := h2.new k (.inr e); omega)).trans (h2.bel.block k hk)⟩,
    fun j hj => hj.elim (fun e => h2.new j (.inl e)) (fun e => (hn j e).elim (fun e => h2.new j (.inr e)) (fun e => by omega)), ?_, fun g hg' e => (hn g hg').elim (fun e2 => h2.ap g e2 e) (fun e2 => by have := hfl g (.inl e); omega)⟩
  rw [List.length_append, sts_append]
  exact h3
/-- The list of the documents that were, with the first one. -/
theorem RsI.start (h : RmJ w wr ra R r) : RsI w (wr.alloc (.cells #[.string ⟨d.toArray⟩] 9)) ra R r (.slice (some ⟨wr.heap.size, 0, none⟩) 1 1) [d] := by
  have hb : Below wr.heap.size wr (wr.alloc (.cells #[.string ⟨d.toArray⟩] 9)) := ex_alloc (Below.refl _ _) _
  have z := h.bel.size
  have hF : ∀ j, WF r (.slice (some ⟨wr.heap.size, 0, none⟩) 1 1) j → r.F j ∨ j = wr.heap.size := fun j hj => hj.imp_right (fun e => by cases e; rfl)
  refine ⟨h.rm.only (G := fun _ => False) (Only.of_below hb) (fun _ e => e.elim) (fun _ _ e => e) (fun j hj => (hF j hj).imp_right (fun e => by omega)) (fun j hj => .inl hj) (fun j hj => ?_), h.a, ex_alloc h.bel _, fun j hj => (hF j hj).elim (h.new j) (fun e => by omega), ?_, fun g hg e => ?_⟩
  · rw [World.size_alloc]
    rcases hF j hj with e | e
    · have := h.rm.flt j e; omega
    · omega
  · exact ⟨rfl, .inr ⟨wr.heap.size, 1, _, rfl, z, heap_alloc_new wr _, Nat.le_refl _, by unfold maxLen; omega, rfl, rfl⟩⟩
  · cases hg
    exact absurd (h.rm.flt _ e) (Nat.lt_irrefl _)
end
theorem SVok.last_ {S : SV} (h : SVok S) : ∃ R, S.docs[S.log.length]? = some S.doc ∧ S.doc = U.encs R ∧ U.AllR R ∧ bl R ≤ 2000 := by
  obtain ⟨R, h1, h2, h3, h4⟩ := h.doc_
  exact ⟨R, by rw [h4, h1], h1, h2, h3⟩
section
attribute [local go_sem] add_mk
set_option maxHeartbeats 32000000 in
theorem roomSeen_walk {s : U.Bs} {vu va : Value} {nu na : Nat} {us : List Int} {L : List SAY} {w : World} (hg : Hdl w) (hu : Sl w 1 vu nu (us.map fun u => .int .i64 u)) (hsl : Sl w 4 va na (says L)) (hln : L.length = na) (hok : ∀ p ∈ L, p.Ok w) (hsm : s.length ≤ maxLen) :
    Calls Tryz.prog 4 #[.string ⟨s.toArray⟩, vu, va] w fun e w' => e = .returned (.bool true) ∧ Below w.heap.size w w' := by
  have HG := Hd.mk hg
  have HSL := Hd.mk hsl
  have HLN := Hd.mk hln
  have HOK := Hd.mk hok
  have HU := Hd.mk hu
  have hul : us.length = nu := by have := hu.len; rw [List.length_map] at this; omega
  have HUL := Hd.mk hul
  obtain ⟨A, cc, rfl, -⟩ := hsl
  obtain ⟨Au, cu, rfl, -⟩ := hu
  unfold maxLen at hsm
  clear hg hln hok hul
  by_cases h1 : 500 < s.length
  · have hi : (500 : Int) < (s.length : Int) := by omega
    go_enter Tryz.func4, Tryz.ntmps4
    go_wp2_with fail
    go_ret
    exact ⟨rfl, Below.refl _ _⟩
  have hi1 : ¬ (500 : Int) < (s.length : Int) := by omega
  by_cases h2 : 60 < na
  · have hi : (60 : Int) < (na : Int) := by omega
    go_enter Tryz.func4, Tryz.ntmps4
    go_wp2_with fail
    go_ret
    exact ⟨rfl, Below.refl _ _⟩
  have hi2 : ¬ (60 : Int) < (na : Int) := by omega
  by_cases h3 : nu < 1
  · have hi : (nu : Int) < 1 := by omega
    go_enter Tryz.func4, Tryz.ntmps4
    go_wp2_with fail
    go_ret
    exact ⟨rfl, Below.refl _ _⟩
  have hi3 : ¬ (nu : Int) < 1 := by omega
  by_cases h4 : 5 < nu
  · have hi : (5 : Int) < (nu : Int) := by omega
    go_enter Tryz.func4, Tryz.ntmps4
    go_wp2_with fail
    go_ret
    exact ⟨rfl, Below.refl _ _⟩
  have hi4 : ¬ (5 : Int) < (nu : Int) := by omega
  obtain ⟨rs, rest, hsp⟩ := U.sp_exists s
  have HM := Hd.mk (keepmet_calls HG.out)
  have HCT := fun W => Hd.mk (count_calls hsp W (by omega))
  have HNB : Hd (1 ≤ nu ∧ nu ≤ 5 ∧ na ≤ 60 ∧ s.length ≤ 500) := ⟨by omega⟩
  have HSP := Hd.mk hsp
  by_cases hr : rest = []
  · have HR := Hd.mk hr
    obtain rfl : s = U.encs rs := by have h := hsp.eq; rw [hr, List.append_nil] at h; exact h
    clear hsp h1 h2 h3 h4 hr hsm
    go_enter Tryz.func4, Tryz.ntmps4
    go_wp2_with (first
      | (go_at_call 20; refine HM.out.mono ?_; rintro e w1 ⟨rfl, hb1⟩; have HB1 := Hd.mk hb1; clear hb1)
      | (go_at_call 21; refine (HCT _).out.mono ?_; rintro e w2 ⟨hb2, h2, -⟩; obtain rfl := h2 HR.out; unfold Cn.v; have HB2 := Hd.mk (bstep HB1.out hb2); clear hb2 h2))
    obtain ⟨w3, hw3⟩ : ∃ W, W = w2.alloc (.cells #[.int .i64 (cnt rs).b, .int .i64 (cnt rs).h, .int .i64 (cnt rs).r, .int .i64 (cnt rs).l] 63) := ⟨_, rfl⟩
    have HB3 : Hd (Below w.heap.size w w3) := ⟨by rw [hw3]; exact ex_alloc HB2.out _⟩
    rw [← hw3]
    clear hw3
    go_loopw [9, 10] (fun uv i wr => ∃ (k : Nat) (ms : List Int), k ≤ nu ∧ i = .int .i64 k ∧ ms.length = k ∧ UnI w3 wr uv ms) (fun _ i _ => nu - (intOf i).toNat)
    case atStart => exact ⟨0, [], by omega, rfl, rfl, World.ownsRow_nil _ _ _ _, Below.refl _ _, fun m hm => by cases hm⟩
    case round =>
      obtain ⟨k, ms, hk, rfl, hml, hI⟩ := hrel
      have HI := Hd.mk (And.intro hml hI)
      have hkb : k ≤ 6 := by have := HNB.out; omega
      obtain ⟨Aq, cq, hvq⟩ := own_form hI.own
      rw [hml] at hvq
      subst hvq
      have how := hI.own
      rw [hml] at how
      have HOW := Hd.mk how
      clear hml hI how
      by_cases hkn : k < nu
      · obtain ⟨m0, hm0⟩ : ∃ u, us[k]? = some u := ⟨_, List.getElem?_eq_getElem (by rw [HUL.out]; exact hkn)⟩
        obtain ⟨b, o, c2, hv2, hbb, c0⟩ := ((HU.out.below HB3.out).below HI.out.2.bel).one_at hkn (u := .int .i64 m0) (by rw [List.getElem?_map, hm0]; rfl)
        cases hv2
        have HPK := Hd.mk (pick_calls m0 3 (by decide) wr)
        clear hm0
        go_wp2_with (first
          | (go_at_call 22; refine HPK.out.mono ?_; rintro e w4 ⟨q, rfl, hq0, hq1, rfl⟩)
          | (at_builtin; refine append_lit' el_ints #[.int .i64 (1 + q)] HOW.out rfl rfl rfl rfl (by simp) rfl (int_one _) (by unfold maxLen; omega) (by omega) HI.out.2.bel.size ?_; intro v5 w5 hown5 hbel5 hgr5 hnew5; have HO5 := Hd.mk hown5; have HB5 := Hd.mk hbel5; clear hown5 hbel5 hgr5 hnew5))
        refine ⟨⟨k + 1, ms ++ [1 + q], by omega, by go_num, by simp [HI.out.1], ?_⟩, by simp only [intOf]; omega⟩
        have hk := HI.out.1
        subst hk
        exact HI.out.2.more ⟨by omega, by omega⟩ HO5.out (Below.refl _ _) HB5.out
      · obtain rfl : k = nu := by omega
        have HRN := Hd.mk (rnew_calls HSP.out (by have := HNB.out; omega) ((HG.out.below HB3.out).below HI.out.2.bel) (by have := Sl.of_own HI.out.2.own; rw [HI.out.1] at this; exact this))
        have HBR := Hd.mk (bstep HB3.out HI.out.2.bel)
        have HMS := Hd.mk (And.intro HI.out.1 HI.out.2.good)
        have hbr : rest = [] ∧ bl rs ≤ 2000 := ⟨HR.out, by have h2 := HNB.out; have : bl rs = (U.encs rs).length := rfl; omega⟩
        have HBR2 := Hd.mk hbr
        clear hbr HI HOW HM HCT
        go_wp2_with (go_at_call 23; refine HRN.out.mono ?_; rintro e w4 ⟨hb4, -, -, -, -, h4⟩; obtain ⟨r0, rfl, hrF, hR0⟩ := h4 HBR2.out.1 HBR2.out.2 (by rw [HMS.out.1]; have := HNB.out.2.1; omega) HMS.out.2; have HJ0 := Hd.mk (RmJ.mk hR0 rfl (bstep HBR.out hb4) (fun j hj => Nat.le_trans HBR.out.size (hrF j hj)) : RmJ w w4 r0.a _ r0); clear hb4 h4 hrF hR0)
        have HRB : Hd (RMb 0 0 (RM.new rs ms)) := ⟨by
          obtain ⟨a1, a2⟩ := RMok.new (R := rs) (us := ms) HSP.out.all HBR2.out.2 HMS.out.2
          exact ⟨a1, a2, Int.le_refl _, Int.le_refl _⟩⟩
        have HCL : Hd ((RM.new rs ms).cl.length = k) := ⟨by
          show (ms.zipIdx.map _).length = k
          rw [List.length_map, List.length_zipIdx]; exact HMS.out.1⟩
        have HS0 : Hd (RsI w _ r0.a (RM.new rs ms) r0 (.slice (some ⟨w4.heap.size, 0, none⟩) 1 1) (RM.new rs ms).srv.docs) := ⟨RsI.start (d := U.encs rs) HJ0.out⟩
        go_loopw [13, 14] (fun wv i wq => ∃ (j m : Nat) (R : RM) (r : RP) (Aw : Option Addr) (cw : Nat), j ≤ na ∧ i = .int .i64 j ∧ wv = .slice Aw (m + 1) cw ∧ R.srv.log.length = m ∧ RsI w wq r0.a R r (.slice Aw (m + 1) cw) R.srv.docs ∧ RMb (j : Int) ((j : Int) * 100000) R ∧ R.cl.length = k) (fun _ i _ => na - (intOf i).toNat)
        case atStart => exact ⟨0, 0, _, r0, _, _, by omega, rfl, rfl, rfl, HS0.out, by simpa using HRB.out, HCL.out⟩
        case round =>
          obtain ⟨j, m, R, r, Aw, cw, hj, rfl, rfl, hm, hS, hRB, hcl⟩ := hrel
          have hdl : R.srv.docs.length = m + 1 := by rw [hRB.ok.sv.len, hm]
          have hmb : m ≤ 300 := by have := hRB.ok.ln; omega
          have HS := Hd.mk hS
          have HMD := Hd.mk (And.intro hm hdl)
          have HRK := Hd.mk (And.intro hRB hcl)
          have hjb : j ≤ 60 := by have := HNB.out; omega
          clear hS hRB hcl HJ0 HRB HCL HS0 hm hdl
          by_cases hjn : j < na
          · have hjl : j < L.length := by rw [HLN.out]; exact hjn
            obtain ⟨b, o, c', hv, hbw, c0, c1, c2, c3⟩ := (HSL.out.below HS.out.bel).say hjn hjl
            cases hv
            have hp := HOK.out _ (List.getElem_mem hjl)
            generalize L[j] = p at *
            obtain ⟨px, py, pz, pv, q⟩ := p
            have hop := hp.op
            dsimp only at hop c0 c1 c2 c3
            obtain ⟨Ap, cp, rfl, -⟩ := id hop
            by_cases h5 : px = 5
            · subst h5
              clear hp hjl
              go_wp2_with fail
              refine ⟨⟨j + 1, m, R, r, Aw, cw, by omega, by go_num, rfl, HMD.out.1, HS.out.below (ex_alloc (Below.refl _ _) _), HRK.out.1.mono (by omega) (by omega), HRK.out.2⟩, by simp only [intOf]; omega⟩
            · have hq5 : (px == (5 : Int)) = false := by rw [beq_eq_false_iff_ne]; exact h5
              have hb0 : Below wr.heap.size wr (wr.alloc (.cells #[.int .i64 px, .int .i64 py, .int .i64 pz, .slice Ap q.length cp] 71)) := ex_alloc (Below.refl _ _) _
              have hkp := kplays_calls (n := k) (what := px) (px := py) (py := pz) (v := .slice Ap q.length cp) (l := q) ⟨(HS.out.below hb0).rm, HRK.out.1, by omega, by omega, HRK.out.2, by have := HNB.out; omega, OpO.argR hop (HS.out.below hb0).bel (HS.out.below hb0).new⟩
              rw [HS.out.a, decide_eq_false h5] at hkp
              have HKP := Hd.mk hkp
              clear hp hjl h5 hop hkp hb0
              go_wp2_with (go_at_call 24; refine HKP.out.mono ?_; rintro e w5 ⟨rfl, R2, hPS, h5⟩; have HPS := Hd.mk hPS; have H5 := Hd.mk h5; clear hPS h5)
              obtain ⟨r2, hS2⟩ := (HS.out.below (ex_alloc (Below.refl _ _) _)).play H5.out
              have hnb := HPS.out.ok HRK.out.1 (by rw [HRK.out.2]; have := HNB.out; omega)
              have HOK2 : Hd (RMb ((j : Int) + 1) ((j : Int) * 100000 + 100000) R2 ∧ R2.cl.length = k) := ⟨hnb.1, hnb.2.trans HRK.out.2⟩
              have hrv := rmrev_calls hS2.rm
              rw [hS2.a] at hrv
              have hln2 := hnb.1.ok.sv.len
              rcases HPS.out.docs with hD | ⟨d, hD⟩
              · have hM : R2.srv.log.length = m := by rw [hD, HMD.out.2] at hln2; omega
                rw [hM] at hrv
                have HRV := Hd.mk hrv
                rw [← hD] at hS2
                have HI2 := Hd.mk hS2
                obtain ⟨M, hMM⟩ : ∃ M, M = m := ⟨_, rfl⟩
                have HM2 : Hd (R2.srv.log.length = M ∧ R2.srv.docs.length = M + 1 ∧ M = m) := ⟨by omega, by omega, hMM⟩
                have hq1 : ((m : Int) == (m : Int) + 1) = false := by rw [beq_eq_false_iff_ne]; omega
                rw [← hMM] at HI2 hq1 HRV
                obtain ⟨A2, hA2⟩ : ∃ A, A = Aw := ⟨_, rfl⟩
                obtain ⟨c2', hc2⟩ : ∃ A, A = cw := ⟨_, rfl⟩
                subst hMM hA2 hc2
                clear hrv hS2 hD hM hln2 hnb
                clear HPS H5 HKP hq5 HS HRK HOK
                go_upto_region 29 with (go_at_call 25; refine HRV.out.mono ?_; rintro e w6 ⟨rfl, rfl⟩)
                obtain ⟨W0, hW0⟩ : ∃ W, W = w6 := ⟨_, rfl⟩
                rw [← hW0] at HI2 ⊢
                clear hW0
                obtain ⟨Rd, hd1, hd2, hd3, hd4⟩ := HOK2.out.1.ok.sv.last_
                have htx : ∀ W, Below W0.heap.size W0 W → Calls Tryz.prog 26 #[.pointer (some ⟨r0.a, 0, none⟩)] W fun e w' => e = .returned (.string ⟨(U.encs Rd).toArray⟩) ∧ Below W.heap.size W w' := fun W hb => by
                  have := rmtext_calls (HI2.out.below hb).rm
                  rwa [HI2.out.a, hd2] at this
                have HTX := Hd.mk htx
                have HCN := fun W => Hd.mk (count_calls (sp_all hd3) W (by show bl Rd ≤ _; omega))
                have hl2 : ¬ (2000 : Int) < ((U.encs Rd).length : Int) := by show ¬ (2000 : Int) < (bl Rd : Int); omega
                clear hd1 hd2 hd3 hd4 htx
                go_wp2_with (first
                  | (go_at_call 26; refine (HTX.out _ HB7.out).mono ?_; rintro e w8 ⟨rfl, hb8⟩; have HB8 := Hd.mk (bstep HB7.out hb8); clear hb8)
                  | (go_at_call 26; refine (HTX.out _ (Below.refl _ _)).mono ?_; rintro e w6 ⟨rfl, hb6⟩; have HB6 := Hd.mk hb6; clear hb6)
                  | (go_at_call 21; refine (HCN _).out.mono ?_; rintro e w7 ⟨hb7, h7, -⟩; obtain rfl := h7 rfl; unfold Cn.v; have HB7 := Hd.mk (ex_alloc (bstep HB6.out hb7) (.cells #[.int .i64 (cnt Rd).b, .int .i64 (cnt Rd).h, .int .i64 (cnt Rd).r, .int .i64 (cnt Rd).l] 63)); clear hb7 h7))
                go_loopw [18] (fun i wq => ∃ (n : Nat), n ≤ k ∧ i = .int .i64 n ∧ RsI w wq r0.a R2 r2 (.slice A2 (M + 1) c2') R2.srv.docs) (fun i _ => k - (intOf i).toNat)
                case atStart => exact ⟨0, by omega, rfl, HI2.out.below HB8.out⟩
                case round =>
                  obtain ⟨n, hn, rfl, hJ3⟩ := hrel
                  have HJ3 := Hd.mk hJ3
                  have hk6 : k ≤ 6 := by have := HNB.out; omega
                  have hmb : M ≤ 300 := by have := HOK2.out.1.ok.ln; rw [HM2.out.1] at this; exact this
                  clear hJ3 HB6 HB7 HB8 HCN HTX
                  by_cases hnk : n < k
                  · obtain ⟨C, hC⟩ : ∃ C, R2.cl[n]? = some C := ⟨_, List.getElem?_eq_getElem (by rw [HOK2.out.2]; exact hnk)⟩
                    obtain ⟨c, hc, -⟩ := HJ3.out.rm.get hC
                    have hck := HOK2.out.1.ok.cl n C hC
                    have hcc := rmclient_calls HJ3.out.rm hc
                    rw [HJ3.out.a] at hcc
                    have HCC := Hd.mk hcc
                    have hcv : C.rev < M + 1 := by have := hck.rev; rw [HM2.out.1] at this; omega
                    obtain ⟨b3, o3, c3, hv3, hb3, q3⟩ := (Sl.of_own HJ3.out.own).one_at (k := C.rev) (by rw [HM2.out.2.1]; exact hcv) (sts_at hck.seen)
                    rw [HM2.out.2.1] at hv3
                    cases hv3
                    have hn1 : ¬ (C.rev : Int) < 0 := by omega
                    have hn2 : ¬ ((M : Int) + 1 ≤ (C.rev : Int)) := by omega
                    have hn3 : (C.rev : Int) < (M : Int) + 1 := by omega
                    have HX : Hd (∀ W, Below wr.heap.size wr W → CliR W (WF r2 (.slice (some ⟨b3, o3, none⟩) (M + 1) c2')) c C) := ⟨fun W hb => (HJ3.out.rm.below hb).cli n c C hc hC⟩
                    have HCK := Hd.mk hck
                    have HB0 : Hd (Below wr.heap.size wr wr) := ⟨Below.refl _ _⟩
                    clear hC hc hcc hck
                    cases hh : C.has
                    · have HH := Hd.mk hh
                      have HTX : Hd (∀ W, Below wr.heap.size wr W → Calls Tryz.prog 31 #[.pointer (some ⟨c.a, 0, none⟩)] W fun e w' => e = .returned (.string ⟨(U.encs C.seen).toArray⟩) ∧ Below W.heap.size W w') := ⟨fun W hb => by have := ctext_calls (HX.out W hb); rwa [(HCK.out.ok.no HH.out).2.2] at this⟩
                      have HPN : Hd (∀ W, Below wr.heap.size wr W → Calls Tryz.prog 30 #[.pointer (some ⟨c.a, 0, none⟩)] W fun e w' => e = .returned (.bool false) ∧ w' = W) := ⟨fun W hb => by have := cpend_calls (HX.out W hb); rwa [HH.out] at this⟩
                      clear hh
                      go_wp2_with (first
                        | (go_at_call 27; refine HCC.out.mono ?_; rintro e w7 ⟨rfl, rfl⟩)
                        | (go_at_call 28; refine (cwho_rev (HX.out _ HB0.out)).mono ?_; rintro e w7 ⟨rfl, rfl⟩)
                        | (go_at_call 29; refine (cseen_calls (HX.out _ HB8.out)).mono ?_; rintro e w7 ⟨rfl, rfl⟩)
                        | (go_at_call 29; refine (cseen_calls (HX.out _ HB0.out)).mono ?_; rintro e w7 ⟨rfl, rfl⟩)
                        | (go_at_call 30; refine (HPN.out _ HB0.out).mono ?_; rintro e w7 ⟨rfl, rfl⟩)
                        | (go_at_call 31; refine (HTX.out _ HB0.out).mono ?_; rintro e w8 ⟨rfl, hb8⟩; have HB8 := Hd.mk hb8; clear hb8))
                      refine ⟨⟨n + 1, by omega, by go_num, HJ3.out.below HB8.out⟩, by simp only [intOf]; omega⟩
                    · have HH := Hd.mk hh
                      have HPN : Hd (∀ W, Below wr.heap.size wr W → Calls Tryz.prog 30 #[.pointer (some ⟨c.a, 0, none⟩)] W fun e w' => e = .returned (.bool true) ∧ w' = W) := ⟨fun W hb => by have := cpend_calls (HX.out W hb); rwa [HH.out] at this⟩
                      clear hh
                      go_wp2_with (first
                        | (go_at_call 27; refine HCC.out.mono ?_; rintro e w7 ⟨rfl, rfl⟩)
                        | (go_at_call 28; refine (cwho_rev (HX.out _ HB0.out)).mono ?_; rintro e w7 ⟨rfl, rfl⟩)
                        | (go_at_call 29; refine (cseen_calls (HX.out _ HB0.out)).mono ?_; rintro e w7 ⟨rfl, rfl⟩)
                        | (go_at_call 30; refine (HPN.out _ HB0.out).mono ?_; rintro e w7 ⟨rfl, rfl⟩))
                      refine ⟨⟨n + 1, by omega, by go_num, HJ3.out⟩, by simp only [intOf]; omega⟩

                  · obtain rfl : n = k := by omega
                    go_wp2_with fail
                    refine ⟨⟨j + 1, M, R2, r2, A2, c2', by omega, by go_num, rfl, HM2.out.1, HJ3.out, HOK2.out.1.mono (by omega) (by omega), HOK2.out.2⟩, by simp only [intOf]; omega⟩
              · have hM : R2.srv.log.length = m + 1 := by rw [hD, List.length_append, HMD.out.2] at hln2; simp at hln2; omega
                have hMl : R2.srv.docs.length = m + 2 := by omega
                obtain ⟨Rd0, hd1, hd2, hd3, hd4⟩ := hnb.1.ok.sv.last_
                have hdd : R2.srv.doc = d := by
                  rw [hM, hD, List.getElem?_append_right (by rw [HMD.out.2]; exact Nat.le_refl _), HMD.out.2, Nat.sub_self] at hd1
                  exact (Option.some.inj hd1).symm
                rw [hM] at hrv
                have HRV := Hd.mk hrv
                have hq1 : (((m + 1 : Nat) : Int) == (m : Int) + 1) = true := by rw [beq_iff_eq]; omega
                have htx0 := rmtext_calls hS2.rm
                rw [hS2.a, hdd] at htx0
                have HTX0 := Hd.mk htx0
                have hown2 := hS2.own
                rw [HMD.out.2] at hown2
                have HS2 := Hd.mk hS2
                have HDD := Hd.mk (And.intro hD (And.intro hM hMl))
                clear hrv hS2 hD hM hMl hln2 hnb hdd hd1 hd2 hd3 hd4 htx0 HPS H5 HKP hq5 HS HRK HOK
                have HOWN2 := Hd.mk hown2
                clear hown2
                go_upto_region 29 with (first
                  | (go_at_call 25; refine HRV.out.mono ?_; rintro e w6 ⟨rfl, rfl⟩)
                  | (go_at_call 26; refine HTX0.out.mono ?_; rintro e w7 ⟨rfl, hb7⟩; have HBT := Hd.mk hb7; clear hb7)
                  | (at_builtin; refine append_lit' el_strsR #[.string ⟨d.toArray⟩] (own_only HOWN2.out (Only.of_below (S := fun _ => False) HBT.out) (fun _ _ e => e)) rfl rfl rfl rfl (by simp) rfl (str_one d) (by unfold maxLen; omega) (by omega) (by have := HS2.out.bel.size; have := HBT.out.size; omega) ?_; intro v9 w9 hown9 hbel9 hgr9 hnew9; obtain ⟨A9, c9, rfl⟩ := own_form hown9; have HI9 := Hd.mk (HS2.out.push HBT.out (by rw [HMD.out.2]; exact hown9) hgr9 hnew9); rw [← HDD.out.1] at HI9; clear hown9 hbel9 hgr9 hnew9))
                obtain ⟨M, hMM⟩ : ∃ M, M = m + 1 := ⟨_, rfl⟩
                have HM2 : Hd (R2.srv.log.length = M ∧ R2.srv.docs.length = M + 1 ∧ M = m + 1) := ⟨by have := HDD.out.2.1; omega, by have := HDD.out.2.2; omega, hMM⟩
                obtain ⟨A2, hA2⟩ : ∃ A, A = A9 := ⟨_, rfl⟩
                obtain ⟨c2', hc2⟩ : ∃ A, A = c9 := ⟨_, rfl⟩
                obtain ⟨W0, hW0⟩ : ∃ W, W = w9 := ⟨_, rfl⟩
                rw [← hA2, ← hc2, ← hW0, ← hMM] at HI9
                rw [← hA2, ← hc2, ← hW0, ← hMM]
                have HI2 : Hd (RsI w W0 r0.a R2 r2 (.slice A2 (M + 1) c2') R2.srv.docs) := HI9
                clear hA2 hc2 hW0 hMM HI9 HDD HBT HTX0 HOWN2 HS2 HRV
                obtain ⟨Rd, hd1, hd2, hd3, hd4⟩ := HOK2.out.1.ok.sv.last_
                have htx : ∀ W, Below W0.heap.size W0 W → Calls Tryz.prog 26 #[.pointer (some ⟨r0.a, 0, none⟩)] W fun e w' => e = .returned (.string ⟨(U.encs Rd).toArray⟩) ∧ Below W.heap.size W w' := fun W hb => by
                  have := rmtext_calls (HI2.out.below hb).rm
                  rwa [HI2.out.a, hd2] at this
                have HTX := Hd.mk htx
                have HCN := fun W => Hd.mk (count_calls (sp_all hd3) W (by show bl Rd ≤ _; omega))
                have hl2 : ¬ (2000 : Int) < ((U.encs Rd).length : Int) := by show ¬ (2000 : Int) < (bl Rd : Int); omega
                clear hd1 hd2 hd3 hd4 htx
                go_wp2_with (first
                  | (go_at_call 26; refine (HTX.out _ HB7.out).mono ?_; rintro e w8 ⟨rfl, hb8⟩; have HB8 := Hd.mk (bstep HB7.out hb8); clear hb8)
                  | (go_at_call 26; refine (HTX.out _ (Below.refl _ _)).mono ?_; rintro e w6 ⟨rfl, hb6⟩; have HB6 := Hd.mk hb6; clear hb6)
                  | (go_at_call 21; refine (HCN _).out.mono ?_; rintro e w7 ⟨hb7, h7, -⟩; obtain rfl := h7 rfl; unfold Cn.v; have HB7 := Hd.mk (ex_alloc (bstep HB6.out hb7) (.cells #[.int .i64 (cnt Rd).b, .int .i64 (cnt Rd).h, .int .i64 (cnt Rd).r, .int .i64 (cnt Rd).l] 63)); clear hb7 h7))
                go_loopw [18] (fun i wq => ∃ (n : Nat), n ≤ k ∧ i = .int .i64 n ∧ RsI w wq r0.a R2 r2 (.slice A2 (M + 1) c2') R2.srv.docs) (fun i _ => k - (intOf i).toNat)
                case atStart => exact ⟨0, by omega, rfl, HI2.out.below HB8.out⟩
                case round =>
                  obtain ⟨n, hn, rfl, hJ3⟩ := hrel
                  have HJ3 := Hd.mk hJ3
                  have hk6 : k ≤ 6 := by have := HNB.out; omega
                  have hmb : M ≤ 300 := by have := HOK2.out.1.ok.ln; rw [HM2.out.1] at this; exact this
                  clear hJ3 HB6 HB7 HB8 HCN HTX
                  by_cases hnk : n < k
                  · obtain ⟨C, hC⟩ : ∃ C, R2.cl[n]? = some C := ⟨_, List.getElem?_eq_getElem (by rw [HOK2.out.2]; exact hnk)⟩
                    obtain ⟨c, hc, -⟩ := HJ3.out.rm.get hC
                    have hck := HOK2.out.1.ok.cl n C hC
                    have hcc := rmclient_calls HJ3.out.rm hc
                    rw [HJ3.out.a] at hcc
                    have HCC := Hd.mk hcc
                    have hcv : C.rev < M + 1 := by have := hck.rev; rw [HM2.out.1] at this; omega
                    obtain ⟨b3, o3, c3, hv3, hb3, q3⟩ := (Sl.of_own HJ3.out.own).one_at (k := C.rev) (by rw [HM2.out.2.1]; exact hcv) (sts_at hck.seen)
                    rw [HM2.out.2.1] at hv3
                    cases hv3
                    have hn1 : ¬ (C.rev : Int) < 0 := by omega
                    have hn2 : ¬ ((M : Int) + 1 ≤ (C.rev : Int)) := by omega
                    have hn3 : (C.rev : Int) < (M : Int) + 1 := by omega
                    have HX : Hd (∀ W, Below wr.heap.size wr W → CliR W (WF r2 (.slice (some ⟨b3, o3, none⟩) (M + 1) c2')) c C) := ⟨fun W hb => (HJ3.out.rm.below hb).cli n c C hc hC⟩
                    have HCK := Hd.mk hck
                    have HB0 : Hd (Below wr.heap.size wr wr) := ⟨Below.refl _ _⟩
                    clear hC hc hcc hck
                    cases hh : C.has
                    · have HH := Hd.mk hh
                      have HTX : Hd (∀ W, Below wr.heap.size wr W → Calls Tryz.prog 31 #[.pointer (some ⟨c.a, 0, none⟩)] W fun e w' => e = .returned (.string ⟨(U.encs C.seen).toArray⟩) ∧ Below W.heap.size W w') := ⟨fun W hb => by have := ctext_calls (HX.out W hb); rwa [(HCK.out.ok.no HH.out).2.2] at this⟩
                      have HPN : Hd (∀ W, Below wr.heap.size wr W → Calls Tryz.prog 30 #[.pointer (some ⟨c.a, 0, none⟩)] W fun e w' => e = .returned (.bool false) ∧ w' = W) := ⟨fun W hb => by have := cpend_calls (HX.out W hb); rwa [HH.out] at this⟩
                      clear hh
                      go_wp2_with (first
                        | (go_at_call 27; refine HCC.out.mono ?_; rintro e w7 ⟨rfl, rfl⟩)
                        | (go_at_call 28; refine (cwho_rev (HX.out _ HB0.out)).mono ?_; rintro e w7 ⟨rfl, rfl⟩)
                        | (go_at_call 29; refine (cseen_calls (HX.out _ HB8.out)).mono ?_; rintro e w7 ⟨rfl, rfl⟩)
                        | (go_at_call 29; refine (cseen_calls (HX.out _ HB0.out)).mono ?_; rintro e w7 ⟨rfl, rfl⟩)
                        | (go_at_call 30; refine (HPN.out _ HB0.out).mono ?_; rintro e w7 ⟨rfl, rfl⟩)
                        | (go_at_call 31; refine (HTX.out _ HB0.out).mono ?_; rintro e w8 ⟨rfl, hb8⟩; have HB8 := Hd.mk hb8; clear hb8))
                      refine ⟨⟨n + 1, by omega, by go_num, HJ3.out.below HB8.out⟩, by simp only [intOf]; omega⟩
                    · have HH := Hd.mk hh
                      have HPN : Hd (∀ W, Below wr.heap.size wr W → Calls Tryz.prog 30 #[.pointer (some ⟨c.a, 0, none⟩)] W fun e w' => e = .returned (.bool true) ∧ w' = W) := ⟨fun W hb => by have := cpend_calls (HX.out W hb); rwa [HH.out] at this⟩
                      clear hh
                      go_wp2_with (first
                        | (go_at_call 27; refine HCC.out.mono ?_; rintro e w7 ⟨rfl, rfl⟩)
                        | (go_at_call 28; refine (cwho_rev (HX.out _ HB0.out)).mono ?_; rintro e w7 ⟨rfl, rfl⟩)
                        | (go_at_call 29; refine (cseen_calls (HX.out _ HB0.out)).mono ?_; rintro e w7 ⟨rfl, rfl⟩)
                        | (go_at_call 30; refine (HPN.out _ HB0.out).mono ?_; rintro e w7 ⟨rfl, rfl⟩))
                      refine ⟨⟨n + 1, by omega, by go_num, HJ3.out⟩, by simp only [intOf]; omega⟩

                  · obtain rfl : n = k := by omega
                    go_wp2_with fail
                    refine ⟨⟨j + 1, M, R2, r2, A2, c2', by omega, by go_num, rfl, HM2.out.1, HJ3.out, HOK2.out.1.mono (by omega) (by omega), HOK2.out.2⟩, by simp only [intOf]; omega⟩
          · obtain rfl : j = na := by omega
            obtain ⟨b3, o3, c3, hv3, hb3, q3⟩ := (Sl.of_own HS.out.own).one_at (k := m) (by rw [HMD.out.2]; exact Nat.lt_succ_self _) (sts_at (by have := HRK.out.1.ok.sv.last_; obtain ⟨_, h, -⟩ := this; rw [HMD.out.1] at h; exact h))
            rw [HMD.out.2] at hv3
            cases hv3
            have htx := fun W (hb : Below wr.heap.size wr W) => rmtext_calls (HS.out.below hb).rm
            rw [HS.out.a] at htx
            have HTX := Hd.mk htx
            have HQ3 := Hd.mk q3
            have HB3L := Hd.mk hb3
            clear htx
            have f1 : (0 : Int) ≤ (m : Int) := by omega
            have f2 : (m : Int) < (m : Int) + 1 := by omega
            have f3 : (m : Int) + 1 - 1 = (m : Int) := by omega
            have f4 : IntKind.i64.wrap (m : Int) = (m : Int) := by unfold IntKind.wrap; simp [IntKind.signed, IntKind.bits]; omega
            have f5 : IntKind.i64.wrap ((m : Int) + 1 - 1) = (m : Int) := by rw [f3]; exact f4
            go_wp2_with fail
            go_region_held3 (fun w' => w'.cell? ⟨b3, o3 + m, none⟩ = some (.string ⟨R.srv.doc.toArray⟩))
              (first | exact HQ8.out | exact HQ3.out | assumption)
              (first | (go_at_call 26; refine (HTX.out _ (ex_drew (Below.refl _ _))).mono ?_; rintro e w8 ⟨rfl, hb8⟩; have HQ8 : Hd (w8.cell? ⟨b3, o3 + m, none⟩ = some (.string ⟨R.srv.doc.toArray⟩)) := ⟨(hb8.cell (p := ⟨b3, o3 + m, none⟩) HB3L.out).trans HQ3.out⟩; have HB8 : Hd (Below wr.heap.size wr w8) := ⟨bstep (ex_drew (Below.refl _ _)) hb8⟩; clear hb8))
            all_goals
              go_wp2_with fail
              go_ret
              exact ⟨rfl, (HS.out.below HB8.out).bel⟩
  · have HR := Hd.mk hr
    clear hsp h1 h2 h3 h4 hr hsm
    go_enter Tryz.func4, Tryz.ntmps4
    go_wp2_with (first
      | (go_at_call 20; refine HM.out.mono ?_; rintro e w1 ⟨rfl, hb1⟩; have HB1 := Hd.mk hb1; clear hb1)
      | (go_at_call 21; refine (HCT _).out.mono ?_; rintro e w2 ⟨hb2, -, h2⟩; obtain ⟨g, rfl, -⟩ := h2 HR.out; unfold atV Cn.v; have HB2 := Hd.mk (bstep HB1.out hb2); clear hb2 h2))
    go_ret
    exact ⟨rfl, ex_alloc HB2.out _⟩
end
end Go.Proofs.YtdgdajnbkfmijaaGreatDoor
