/- ref.Gather. -/
import Derived.Test.YtdgdajnbkfmijaaGreatDoorMServerPlays25
import Derived.Test.YtdgdajnbkfmijaaGreatDoorMServerPlays23
namespace Go.Proofs.YtdgdajnbkfmijaaGreatDoor
open Go.RowKit
set_option maxRecDepth 100000
/-- Gather's state behind k bytes. -/
def gst (g : SS) (k : Nat) : GS := (g.l.take k).foldl GS.step .zero
theorem gst_succ {g : SS} {k : Nat} (h : k < g.l.length) : gst g (k + 1) = ((gst g k).gap g.l[k].1 g.l[k].2).byte g.l[k].2 := by
  unfold gst
  rw [List.take_succ_eq_append_getElem h, List.foldl_append]; rfl
theorem gst_all (g : SS) : gather g = ((gst g g.l.length).gap g.e false).fin := by
  unfold gst gather
  rw [List.take_length]
def plg (g : SS) : Nat := (g.P.map List.length).sum
theorem gap_bd (s : GS) (b : U.Bs) (x : Bool) (h : 0 ≤ s.keep) : (s.gap b x).out.length ≤ s.out.length + 1 ∧ (s.gap b x).put.length ≤ s.put.length + b.length ∧ (s.gap b x).drop = s.drop ∧ 0 ≤ (s.gap b x).keep ∧ (s.gap b x).keep ≤ s.keep := by
  unfold GS.gap
  split
  · refine ⟨?_, by simp, rfl, Int.le_refl _, h⟩
    unfold keepP
    split <;> simp
  · exact ⟨by omega, by omega, rfl, h, Int.le_refl _⟩
theorem byte_bd (s : GS) (x : Bool) (h : 0 ≤ s.keep) (hd : 0 ≤ s.drop) : (s.byte x).out.length ≤ s.out.length + 2 ∧ (s.byte x).put.length ≤ s.put.length ∧ 0 ≤ (s.byte x).drop ∧ (s.byte x).drop ≤ s.drop + 1 ∧ 0 ≤ (s.byte x).keep ∧ (s.byte x).keep ≤ s.keep + 1 := by
  unfold GS.byte
  split
  · exact ⟨by dsimp only; omega, Nat.le_refl _, by dsimp only; omega, Int.le_refl _, h, by dsimp only; omega⟩
  · have := flushP_length s.put s.drop
    exact ⟨by simp; omega, by simp, Int.le_refl _, by dsimp only; omega, by dsimp only; omega, Int.le_refl _⟩
theorem gst_bd (g : SS) (k : Nat) (hk : k ≤ g.l.length) : (gst g k).out.length ≤ 3 * k ∧ (gst g k).put.length ≤ ((g.l.take k).map (fun p => p.1.length)).sum ∧ 0 ≤ (gst g k).drop ∧ (gst g k).drop ≤ k ∧ 0 ≤ (gst g k).keep ∧ (gst g k).keep ≤ k := by
  induction k with
  | zero => exact ⟨by simp [gst, GS.zero], by simp [gst, GS.zero], Int.le_refl _, Int.le_refl _, Int.le_refl _, Int.le_refl _⟩
  | succ k ih =>
    obtain ⟨a1, a2, a3, a4, a5, a6⟩ := ih (by omega)
    have hk' : k < g.l.length := by omega
    obtain ⟨b1, b2, b3, b4, b5⟩ := gap_bd (gst g k) g.l[k].1 g.l[k].2 a5
    obtain ⟨c1, c2, c3, c4, c5, c6⟩ := byte_bd ((gst g k).gap g.l[k].1 g.l[k].2) g.l[k].2 b4 (by omega)
    rw [gst_succ hk', List.take_succ_eq_append_getElem hk', List.map_append, List.sum_append]
    simp only [List.map_cons, List.map_nil, List.sum_cons, List.sum_nil]
    exact ⟨by omega, by omega, c3, by omega, c5, by omega⟩
theorem sum_take (l : List (U.Bs × Bool)) (k : Nat) : ((l.take k).map (fun p => p.1.length)).sum ≤ (l.map (fun p => p.1.length)).sum := by
  conv => rhs; rw [← List.take_append_drop k l]
  rw [List.map_append, List.sum_append]; omega
theorem plg_eq (g : SS) : plg g = (g.l.map (fun p => p.1.length)).sum + g.e.length := by
  unfold plg SS.P
  simp [List.map_map, Function.comp_def]
theorem P_at {g : SS} {k : Nat} (h : k < g.l.length) : g.P[k]? = some g.l[k].1 := by
  unfold SS.P
  rw [List.getElem?_append_left (by simpa using h)]
  simp [h]
theorem P_end (g : SS) : g.P[g.l.length]? = some g.e := by
  unfold SS.P
  rw [List.getElem?_append_right (by simp)]
  simp
theorem D_at {g : SS} {k : Nat} (h : k < g.l.length) : g.D[k]? = some g.l[k].2 := by
  unfold SS.D
  simp [h]
theorem strs_at {l : List U.Bs} {k : Nat} {b : U.Bs} {u : Value} (h : l[k]? = some b) (hu : (strs l)[k]? = some u) : u = .string ⟨b.toArray⟩ := by
  unfold strs at hu
  rw [List.getElem?_map, h] at hu
  simpa using hu.symm
theorem bools_at {l : List Bool} {k : Nat} {b : Bool} {u : Value} (h : l[k]? = some b) (hu : (bools l)[k]? = some u) : u = .bool b := by
  unfold bools at hu
  rw [List.getElem?_map, h] at hu
  simpa using hu.symm
theorem le_sum {l : List Nat} {a : Nat} (h : a ∈ l) : a ≤ l.sum := by
  induction l with
  | nil => simp at h
  | cons b l ih =>
    rw [List.sum_cons]
    rcases List.mem_cons.1 h with rfl | h
    · omega
    · have := ih h; omega
theorem b_le {g : SS} {k : Nat} {b : U.Bs} (h : g.P[k]? = some b) : b.length ≤ plg g := by
  unfold plg
  exact le_sum (List.mem_map_of_mem (List.mem_of_getElem? h))
/-- What holds at a round's head: Gather's variables, the gaps' own. -/
structure GI (w w0 : World) (vp vd : Value) (v : Value) (s : GS) : Prop where
  ni : NI w (w0.heap.size + 1) v ⟨s.out, s.put, s.drop⟩
  box : Blk w w0.heap.size 234 #[vp, vd]
  bel : Below w0.heap.size w0 w
theorem GI.new (w : World) (vp vd : Value) : GI ((((w.alloc (.cells #[vp, vd] 234)).alloc (.cells #[.slice none 0 0] 36)).alloc (.cells #[.string ⟨#[]⟩] 9)).alloc (.cells #[.int .i64 0] 3)) w vp vd (.slice none 0 0) .zero := by
  refine ⟨?_, (((Blk.new _ _ _).alloc _).alloc _).alloc _, ex_alloc (ex_alloc (ex_alloc (ex_alloc (Below.refl _ _) _) _) _) _⟩
  have := NI.new (w.alloc (.cells #[vp, vd] 234))
  rwa [World.size_alloc] at this
theorem box_ne {w w1 : World} {v : Value} {H : Nat} {s : NS} (h : NI w (H + 1) v s) (ho : Only (FlS (H + 1 + 1) (H + 1) (H + 1 + 1 + 1) v) w w1) {t : TypeId} {cs : Array Value} (hb : Blk w H t cs) : Blk w1 H t cs := by
  refine hb.only ho ?_
  rintro (e | e | e | e)
  · omega
  · omega
  · omega
  · have := (h.own.lt _ e).1; omega
theorem fl_bel {w w0 w1 : World} {v : Value} {s : NS} (hb : Below w0.heap.size w0 w) (h : NI w (w0.heap.size + 1) v s) (ho : Only (FlS (w0.heap.size + 1 + 1) (w0.heap.size + 1) (w0.heap.size + 1 + 1 + 1) v) w w1) : Below w0.heap.size w0 w1 :=
  hb.trans (ho.below hb.size (fun k hk => by
    rintro (e | e | e | e)
    · omega
    · omega
    · omega
    · have := (h.own.lt _ e).1; omega))
theorem le_al {w w0 : World} {vp vd v : Value} {s : GS} (h : GI w w0 vp vd v s) : w0.heap.size + 1 + 3 ≤ w.heap.size := by have := h.ni.D.lt; omega
/-- Behind an append of a part that keeps. -/
theorem GI.more {w w0 w1 : World} {vp vd v v1 : Value} {s : GS} {k : Int} {N : Nat} (h : GI w w0 vp vd v s) (hN : s.out.length = N) (ho : w1.ownsRow (w0.heap.size + 1 + 3) 113 3 v1 (N + 1) (opv s.out ++ (#[Value.int .i64 k, .int .i64 0, .string ⟨#[]⟩] : Array Value).toList))
    (hb : Below (w0.heap.size + 1 + 3) w w1) : GI (w1.setCell ⟨w0.heap.size + 1, 0, none⟩ v1) w0 vp vd v1 ⟨s.out ++ [⟨k, 0, []⟩], s.put, s.drop, 0⟩ := by
  subst hN
  obtain ⟨⟨h1, h2, h3, h4⟩, h5, h6⟩ := h
  refine ⟨⟨(h1.below hb (by omega)).put1, (h2.below hb (by omega)).far (p := ⟨w0.heap.size + 1, 0, none⟩) (by simp) _, (h3.below hb (by omega)).far (p := ⟨w0.heap.size + 1, 0, none⟩) (by simp; omega) _, ?_⟩,
    (h5.below hb (by omega)).far (p := ⟨w0.heap.size + 1, 0, none⟩) (by simp) _, (h6.trans (hb.mono (by omega))).setCell (show w0.heap.size ≤ w0.heap.size + 1 by omega) _⟩
  have := ownsRow_setCell_other ho (a := ⟨w0.heap.size + 1, 0, none⟩) (fun e => by have := (ho.lt _ e).1; simp at this; omega) v1
  dsimp only
  rw [opv_append, opv_one, List.length_append]
  exact this
def GapR (w0 : World) (vp vd : Value) (s : GS) (s6 : Value) (wx : World) : Prop := ∃ v, s6 = .int .i64 s.keep ∧ GI wx w0 vp vd v s
section
attribute [local go_sem] add_mk str_append
def GatNew (l : List PT) (w : World) (e : Ending) (w' : World) : Prop := NormPost l w e w' ∧ FrE1 w.heap.size e
set_option maxHeartbeats 8000000 in
theorem gather_new {g : SS} {vp vd : Value} {N : Nat} {w : World} (hp : Sl w 1 vp (N + 1) (strs g.P)) (hd : Sl w 1 vd N (bools g.D)) (hN : N ≤ 68719476736) (hl : plg g ≤ 1099511627776) :
    Calls Tryz.prog 129 #[.agg #[vp, vd]] w (GatNew (gather g) w) := by
  have hgl : g.l.length = N := by have := hd.len; simpa [bools, SS.D] using this
  have hpg := plg_eq g
  have HPP := Hd.mk hp
  have HDD := Hd.mk hd
  have HGL := Hd.mk hgl
  obtain ⟨A1, c1, rfl, -⟩ := hp
  obtain ⟨A2, c2, rfl, -⟩ := hd
  go_enter Tryz.func129, Tryz.ntmps129
  go_wp2_with fail
  go_loopw [6, 14] (fun kp i wr => ∃ (k : Nat) (v' : Value), k ≤ N ∧ i = .int .i64 k ∧ kp = .int .i64 (gst g k).keep ∧ GI wr w (.slice A1 (N + 1) c1) (.slice A2 N c2) v' (gst g k)) (fun _ i _ => N + 1 - (intOf i).toNat)
  case atStart => exact ⟨0, _, by omega, rfl, rfl, GI.new w _ _⟩
  case round =>
    obtain ⟨k, v', hk, rfl, rfl, hgi⟩ := hrel
    obtain ⟨bd1, bd2, bd3, bd4, bd5, bd6⟩ := gst_bd g k (by omega)
    have hst := sum_take g.l k
    obtain ⟨A', k', rfl⟩ := own_form hgi.ni.own
    obtain ⟨adp, cp, up, hvp, hltp, hup, hcp⟩ := (HPP.out.below hgi.bel).at_ (show k < N + 1 by omega)
    cases hvp
    by_cases hk2 : k < N
    · have HPA := Hd.mk (P_at (g := g) (k := k) (by omega))
      have HDA := Hd.mk (D_at (g := g) (k := k) (by omega))
      have hbl := b_le HPA.out
      have HS := Hd.mk (gst_succ (g := g) (k := k) (by omega))
      have HGB := Hd.mk (gap_bd (gst g k) g.l[k].1 g.l[k].2 bd5)
      obtain rfl := strs_at HPA.out hup
      obtain ⟨add0, cd0, ud0, hvd0, hltd0, hud0, hcd0⟩ := (HDD.out.below hgi.bel).at_ hk2
      cases hvd0
      obtain rfl := bools_at HDA.out hud0
      generalize gst g k = s at *
      generalize g.l[k] = bx at *
      obtain ⟨b, x⟩ := bx
      dsimp only at *
      have HGI := Hd.mk hgi
      obtain ⟨m1, m2, m3, m4, m5, m6⟩ := hgi.ni.cells
      have z0 := hgi.ni.O.lt
      have z1 := hgi.ni.P.lt
      have z2 := hgi.ni.D.lt
      have q0 := hgi.box.cell 0
      have q1 := hgi.box.cell 1
      simp only [List.getElem?_toArray, List.getElem?_cons_zero, List.getElem?_cons_succ] at q0 q1
      clear hgi hup hltp hud0 hltd0
      have hbl' : b.length ≤ 1099511627776 := by omega
      have hsl' : s.put.length ≤ 1099511627776 := by omega
      have hsd' : s.drop ≤ 68719476736 := by omega
      have hsk' : s.keep ≤ 68719476736 := by omega
      cases x
      · by_cases hb : b = []
        · subst hb
          have HC : Hd (¬ (([] : U.Bs) ≠ [] ∨ false = true)) := ⟨by simp⟩
          go_upto_if 36 with fail
          go_cut [6] (fun s6 wx => GapR w (.slice (some adp) (N + 1) c1) (.slice (some add0) N c2) (s.gap [] false) s6 wx)
          case first =>
            have HGE : Hd (s.gap [] false = s) := ⟨by unfold GS.gap; rw [if_neg HC.out]⟩
            go_wp2_with fail
            go_meet
            exact ⟨_, by rw [HGE.out], by rw [HGE.out]; exact HGI.out⟩
          case rest =>
            obtain ⟨v2, rfl, hg4⟩ := hcut
            obtain ⟨bd7, bd8, bd9, bd10, bd11⟩ := HGB.out
            have bd9a := Int.le_of_eq bd9
            have bd9b := Int.le_of_eq bd9.symm
            clear bd9
            have HG4 := Hd.mk hg4
            obtain ⟨add, cd, ud, hvd, hltd, hud, hcd⟩ := (HDD.out.below hg4.bel).at_ hk2
            cases hvd
            obtain rfl := bools_at HDA.out hud
            clear m1 m2 m3 m4 m5 m6 z0 z1 z2 q0 q1 hcp
            obtain ⟨m1, m2, m3, m4, m5, m6⟩ := hg4.ni.cells
            have z0 := hg4.ni.O.lt
            have z1 := hg4.ni.P.lt
            have z2 := hg4.ni.D.lt
            have q0 := hg4.box.cell 0
            have q1 := hg4.box.cell 1
            simp only [List.getElem?_toArray, List.getElem?_cons_zero, List.getElem?_cons_succ] at q0 q1
            obtain ⟨A4, k4, rfl⟩ := own_form hg4.ni.own
            clear hg4 hud hltd HC
            generalize s.gap [] false = s2 at *
            have HBY : Hd (s2.byte false = ⟨s2.out ++ flushP s2.put s2.drop, [], 0, s2.keep + 1⟩) := ⟨rfl⟩
            have HL4 : Hd (s2.out.length ≤ 1099511627776) := ⟨by omega⟩
            go_wp2_with (go_at_call 157; refine (done_calls (base := w.heap.size + 1 + 3) (bp := w.heap.size + 1 + 1) (bo := w.heap.size + 1) (bd := w.heap.size + 1 + 1 + 1) (by omega) (by omega) (by omega) HG4.out.ni.P HG4.out.ni.O HG4.out.ni.D HG4.out.ni.own HL4.out).mono ?_; rintro e w5 ⟨rfl, v5, f1, f2, f3, f4, f5⟩; obtain ⟨A5, k5, rfl⟩ := own_form f2; generalize hN5 : (s2.out ++ flushP s2.put s2.drop).length = N5 at *; have HN5 := Hd.mk hN5; clear hN5; have g1 := f1.cell 0; have g2 := f1.frozen 0; simp only [List.getElem?_toArray, List.getElem?_cons_zero] at g1; have HF1 := Hd.mk f1; have HF2 := Hd.mk f2; have HF3 := Hd.mk f3; have HF4 := Hd.mk f4; have HF5 := Hd.mk f5; clear f1 f2 f3 f4 f5)
            exact ⟨⟨k + 1, _, by omega, by go_num, by rw [HS.out, HBY.out], by rw [HS.out, HBY.out]; exact ⟨⟨HF1.out, HF3.out, HF4.out, by dsimp only; rw [HN5.out]; exact HF2.out⟩, box_ne HG4.out.ni HF5.out HG4.out.box, fl_bel HG4.out.bel HG4.out.ni HF5.out⟩⟩, by simp only [intOf]; omega⟩
        · have hb' : (b == []) = false := by rw [beq_eq_false_iff_ne]; exact hb
          have HC : Hd (b ≠ [] ∨ false = true) := ⟨.inl hb⟩
          go_upto_if 36 with fail
          go_cut [6] (fun s6 wx => GapR w (.slice (some adp) (N + 1) c1) (.slice (some add0) N c2) (s.gap b false) s6 wx)
          case first =>
            by_cases hkp : 0 < s.keep
            · have HL1 : Hd (s.out.length + 1 ≤ maxLen) := ⟨by unfold maxLen; omega⟩
              have HL2 : Hd ((s.out.length + 1) * 32 ≤ 140737488355328) := ⟨by omega⟩
              have HL3 : Hd (w.heap.size + 1 + 3 ≤ wr.heap.size) := ⟨by have := HGI.out.ni.D.lt; omega⟩
              have HGE : Hd (s.gap b false = ⟨s.out ++ [⟨s.keep, 0, []⟩], s.put ++ b, s.drop, 0⟩) := ⟨by unfold GS.gap keepP; rw [if_pos HC.out, if_pos hkp]; try simp⟩
              go_upto_region 11 with (at_builtin; refine append_lit' el_part #[.int .i64 s.keep, .int .i64 0, .string ⟨#[]⟩] HGI.out.ni.own rfl rfl rfl rfl (by simp) rfl (one3 rfl rfl rfl) HL1.out HL2.out HL3.out ?_; intro v3 w2 hown3 hbel3 hgr3 hnew3; obtain ⟨A3, k3, rfl⟩ := own_form hown3; have f1 := HGI.out.ni.O.below hbel3 (by omega); have g3 := f1.cell 0; have g4 := f1.frozen 0; simp only [List.getElem?_toArray, List.getElem?_cons_zero] at g3; have HO3 := Hd.mk hown3; have HB3 := Hd.mk hbel3; clear f1 hown3 hbel3 hgr3 hnew3)
              have hg2 := HGI.out.more rfl HO3.out HB3.out
              have HG2 := Hd.mk hg2
              obtain ⟨adp2, cp2, up2, hvp2, hltp2, hup2, hcp2⟩ := (HPP.out.below hg2.bel).at_ (show k < N + 1 by omega)
              cases hvp2
              obtain rfl := strs_at HPA.out hup2
              obtain ⟨m1b, m2b, m3b, m4b, m5b, m6b⟩ := hg2.ni.cells
              have z0b := hg2.ni.O.lt
              have z1b := hg2.ni.P.lt
              have z2b := hg2.ni.D.lt
              have q0b := hg2.box.cell 0
              have q1b := hg2.box.cell 1
              simp only [List.getElem?_toArray, List.getElem?_cons_zero, List.getElem?_cons_succ] at q0b q1b
              clear hg2 g3 g4 hup2 hltp2
              clear m1 m2 m3 m4 m5 m6 z0 z1 z2 q0 q1 hcp
              generalize (w2.setCell ⟨w.heap.size + 1, 0, none⟩ (.slice A3 (s.out.length + 1) k3)) = W at *
              go_region
              go_wp2_with fail
              go_meet
              exact ⟨_, by rw [HGE.out], by rw [HGE.out]; exact ⟨(HG2.out.ni.setP _).drew, HG2.out.box.far (p := ⟨w.heap.size + 1 + 1, 0, none⟩) (by simp; omega) _, ex_drew (HG2.out.bel.setCell (show w.heap.size ≤ w.heap.size + 1 + 1 by omega) _)⟩⟩
            · have HGE : Hd (s.gap b false = ⟨s.out, s.put ++ b, s.drop, 0⟩) := ⟨by unfold GS.gap keepP; rw [if_pos HC.out, if_neg hkp]; simp⟩
              have hk0 : s.keep = 0 := by omega
              have HK0 := Hd.mk hk0
              clear hk0
              go_upto_region 11 with fail
              go_region
              go_wp2_with fail
              go_meet
              exact ⟨_, by rw [HGE.out, HK0.out], by rw [HGE.out]; exact ⟨(HGI.out.ni.setP _).drew, HGI.out.box.far (p := ⟨w.heap.size + 1 + 1, 0, none⟩) (by simp; omega) _, ex_drew (HGI.out.bel.setCell (show w.heap.size ≤ w.heap.size + 1 + 1 by omega) _)⟩⟩
          case rest =>
            obtain ⟨v2, rfl, hg4⟩ := hcut
            obtain ⟨bd7, bd8, bd9, bd10, bd11⟩ := HGB.out
            have bd9a := Int.le_of_eq bd9
            have bd9b := Int.le_of_eq bd9.symm
            clear bd9
            have HG4 := Hd.mk hg4
            obtain ⟨add, cd, ud, hvd, hltd, hud, hcd⟩ := (HDD.out.below hg4.bel).at_ hk2
            cases hvd
            obtain rfl := bools_at HDA.out hud
            clear m1 m2 m3 m4 m5 m6 z0 z1 z2 q0 q1 hcp
            obtain ⟨m1, m2, m3, m4, m5, m6⟩ := hg4.ni.cells
            have z0 := hg4.ni.O.lt
            have z1 := hg4.ni.P.lt
            have z2 := hg4.ni.D.lt
            have q0 := hg4.box.cell 0
            have q1 := hg4.box.cell 1
            simp only [List.getElem?_toArray, List.getElem?_cons_zero, List.getElem?_cons_succ] at q0 q1
            obtain ⟨A4, k4, rfl⟩ := own_form hg4.ni.own
            clear hg4 hud hltd HC
            generalize s.gap b false = s2 at *
            have HBY : Hd (s2.byte false = ⟨s2.out ++ flushP s2.put s2.drop, [], 0, s2.keep + 1⟩) := ⟨rfl⟩
            have HL4 : Hd (s2.out.length ≤ 1099511627776) := ⟨by omega⟩
            go_wp2_with (go_at_call 157; refine (done_calls (base := w.heap.size + 1 + 3) (bp := w.heap.size + 1 + 1) (bo := w.heap.size + 1) (bd := w.heap.size + 1 + 1 + 1) (by omega) (by omega) (by omega) HG4.out.ni.P HG4.out.ni.O HG4.out.ni.D HG4.out.ni.own HL4.out).mono ?_; rintro e w5 ⟨rfl, v5, f1, f2, f3, f4, f5⟩; obtain ⟨A5, k5, rfl⟩ := own_form f2; generalize hN5 : (s2.out ++ flushP s2.put s2.drop).length = N5 at *; have HN5 := Hd.mk hN5; clear hN5; have g1 := f1.cell 0; have g2 := f1.frozen 0; simp only [List.getElem?_toArray, List.getElem?_cons_zero] at g1; have HF1 := Hd.mk f1; have HF2 := Hd.mk f2; have HF3 := Hd.mk f3; have HF4 := Hd.mk f4; have HF5 := Hd.mk f5; clear f1 f2 f3 f4 f5)
            exact ⟨⟨k + 1, _, by omega, by go_num, by rw [HS.out, HBY.out], by rw [HS.out, HBY.out]; exact ⟨⟨HF1.out, HF3.out, HF4.out, by dsimp only; rw [HN5.out]; exact HF2.out⟩, box_ne HG4.out.ni HF5.out HG4.out.box, fl_bel HG4.out.bel HG4.out.ni HF5.out⟩⟩, by simp only [intOf]; omega⟩
      · by_cases hb : b = []
        · subst hb
          have HC : Hd (([] : U.Bs) ≠ [] ∨ true = true) := ⟨.inr rfl⟩
          go_upto_if 36 with fail
          go_cut [6] (fun s6 wx => GapR w (.slice (some adp) (N + 1) c1) (.slice (some add0) N c2) (s.gap [] true) s6 wx)
          case first =>
            by_cases hkp : 0 < s.keep
            · have HL1 : Hd (s.out.length + 1 ≤ maxLen) := ⟨by unfold maxLen; omega⟩
              have HL2 : Hd ((s.out.length + 1) * 32 ≤ 140737488355328) := ⟨by omega⟩
              have HL3 : Hd (w.heap.size + 1 + 3 ≤ wr.heap.size) := ⟨by have := HGI.out.ni.D.lt; omega⟩
              have HGE : Hd (s.gap [] true = ⟨s.out ++ [⟨s.keep, 0, []⟩], s.put, s.drop, 0⟩) := ⟨by unfold GS.gap keepP; rw [if_pos HC.out, if_pos hkp]; try simp⟩
              go_upto_region 11 with (at_builtin; refine append_lit' el_part #[.int .i64 s.keep, .int .i64 0, .string ⟨#[]⟩] HGI.out.ni.own rfl rfl rfl rfl (by simp) rfl (one3 rfl rfl rfl) HL1.out HL2.out HL3.out ?_; intro v3 w2 hown3 hbel3 hgr3 hnew3; obtain ⟨A3, k3, rfl⟩ := own_form hown3; have f1 := HGI.out.ni.O.below hbel3 (by omega); have g3 := f1.cell 0; have g4 := f1.frozen 0; simp only [List.getElem?_toArray, List.getElem?_cons_zero] at g3; have HO3 := Hd.mk hown3; have HB3 := Hd.mk hbel3; clear f1 hown3 hbel3 hgr3 hnew3)
              have hg2 := HGI.out.more rfl HO3.out HB3.out
              have HG2 := Hd.mk hg2
              obtain ⟨adp2, cp2, up2, hvp2, hltp2, hup2, hcp2⟩ := (HPP.out.below hg2.bel).at_ (show k < N + 1 by omega)
              cases hvp2
              obtain rfl := strs_at HPA.out hup2
              obtain ⟨m1b, m2b, m3b, m4b, m5b, m6b⟩ := hg2.ni.cells
              have z0b := hg2.ni.O.lt
              have z1b := hg2.ni.P.lt
              have z2b := hg2.ni.D.lt
              have q0b := hg2.box.cell 0
              have q1b := hg2.box.cell 1
              simp only [List.getElem?_toArray, List.getElem?_cons_zero, List.getElem?_cons_succ] at q0b q1b
              clear hg2 g3 g4 hup2 hltp2
              clear m1 m2 m3 m4 m5 m6 z0 z1 z2 q0 q1 hcp
              generalize (w2.setCell ⟨w.heap.size + 1, 0, none⟩ (.slice A3 (s.out.length + 1) k3)) = W at *
              go_region
              go_wp2_with fail
              go_meet
              exact ⟨_, by rw [HGE.out], by rw [HGE.out]; exact ⟨(HG2.out.ni.setP _).drew, HG2.out.box.far (p := ⟨w.heap.size + 1 + 1, 0, none⟩) (by simp; omega) _, ex_drew (HG2.out.bel.setCell (show w.heap.size ≤ w.heap.size + 1 + 1 by omega) _)⟩⟩
            · have HGE : Hd (s.gap [] true = ⟨s.out, s.put, s.drop, 0⟩) := ⟨by unfold GS.gap keepP; rw [if_pos HC.out, if_neg hkp]; simp⟩
              have hk0 : s.keep = 0 := by omega
              have HK0 := Hd.mk hk0
              clear hk0
              go_upto_region 11 with fail
              go_region
              go_wp2_with fail
              go_meet
              exact ⟨_, by rw [HGE.out, HK0.out], by rw [HGE.out]; exact ⟨(HGI.out.ni.setP _).drew, HGI.out.box.far (p := ⟨w.heap.size + 1 + 1, 0, none⟩) (by simp; omega) _, ex_drew (HGI.out.bel.setCell (show w.heap.size ≤ w.heap.size + 1 + 1 by omega) _)⟩⟩
          case rest =>
            obtain ⟨v2, rfl, hg4⟩ := hcut
            obtain ⟨bd7, bd8, bd9, bd10, bd11⟩ := HGB.out
            have bd9a := Int.le_of_eq bd9
            have bd9b := Int.le_of_eq bd9.symm
            clear bd9
            have HG4 := Hd.mk hg4
            obtain ⟨add, cd, ud, hvd, hltd, hud, hcd⟩ := (HDD.out.below hg4.bel).at_ hk2
            cases hvd
            obtain rfl := bools_at HDA.out hud
            clear m1 m2 m3 m4 m5 m6 z0 z1 z2 q0 q1 hcp
            obtain ⟨m1, m2, m3, m4, m5, m6⟩ := hg4.ni.cells
            have z0 := hg4.ni.O.lt
            have z1 := hg4.ni.P.lt
            have z2 := hg4.ni.D.lt
            have q0 := hg4.box.cell 0
            have q1 := hg4.box.cell 1
            simp only [List.getElem?_toArray, List.getElem?_cons_zero, List.getElem?_cons_succ] at q0 q1
            obtain ⟨A4, k4, rfl⟩ := own_form hg4.ni.own
            clear hg4 hud hltd HC
            generalize s.gap [] true = s2 at *
            have HBY : Hd (s2.byte true = ⟨s2.out, s2.put, s2.drop + 1, s2.keep⟩) := ⟨rfl⟩
            go_wp2_with fail
            exact ⟨⟨k + 1, _, by omega, by go_num, by rw [HS.out, HBY.out], by rw [HS.out, HBY.out]; exact ⟨HG4.out.ni.setD _, HG4.out.box.far (p := ⟨w.heap.size + 1 + 1 + 1, 0, none⟩) (by simp; omega) _, HG4.out.bel.setCell (show w.heap.size ≤ w.heap.size + 1 + 1 + 1 by omega) _⟩⟩, by simp only [intOf]; omega⟩
        · have hb' : (b == []) = false := by rw [beq_eq_false_iff_ne]; exact hb
          have HC : Hd (b ≠ [] ∨ true = true) := ⟨.inl hb⟩
          go_upto_if 36 with fail
          go_cut [6] (fun s6 wx => GapR w (.slice (some adp) (N + 1) c1) (.slice (some add0) N c2) (s.gap b true) s6 wx)
          case first =>
            by_cases hkp : 0 < s.keep
            · have HL1 : Hd (s.out.length + 1 ≤ maxLen) := ⟨by unfold maxLen; omega⟩
              have HL2 : Hd ((s.out.length + 1) * 32 ≤ 140737488355328) := ⟨by omega⟩
              have HL3 : Hd (w.heap.size + 1 + 3 ≤ wr.heap.size) := ⟨by have := HGI.out.ni.D.lt; omega⟩
              have HGE : Hd (s.gap b true = ⟨s.out ++ [⟨s.keep, 0, []⟩], s.put ++ b, s.drop, 0⟩) := ⟨by unfold GS.gap keepP; rw [if_pos HC.out, if_pos hkp]; try simp⟩
              go_upto_region 11 with (at_builtin; refine append_lit' el_part #[.int .i64 s.keep, .int .i64 0, .string ⟨#[]⟩] HGI.out.ni.own rfl rfl rfl rfl (by simp) rfl (one3 rfl rfl rfl) HL1.out HL2.out HL3.out ?_; intro v3 w2 hown3 hbel3 hgr3 hnew3; obtain ⟨A3, k3, rfl⟩ := own_form hown3; have f1 := HGI.out.ni.O.below hbel3 (by omega); have g3 := f1.cell 0; have g4 := f1.frozen 0; simp only [List.getElem?_toArray, List.getElem?_cons_zero] at g3; have HO3 := Hd.mk hown3; have HB3 := Hd.mk hbel3; clear f1 hown3 hbel3 hgr3 hnew3)
              have hg2 := HGI.out.more rfl HO3.out HB3.out
              have HG2 := Hd.mk hg2
              obtain ⟨adp2, cp2, up2, hvp2, hltp2, hup2, hcp2⟩ := (HPP.out.below hg2.bel).at_ (show k < N + 1 by omega)
              cases hvp2
              obtain rfl := strs_at HPA.out hup2
              obtain ⟨m1b, m2b, m3b, m4b, m5b, m6b⟩ := hg2.ni.cells
              have z0b := hg2.ni.O.lt
              have z1b := hg2.ni.P.lt
              have z2b := hg2.ni.D.lt
              have q0b := hg2.box.cell 0
              have q1b := hg2.box.cell 1
              simp only [List.getElem?_toArray, List.getElem?_cons_zero, List.getElem?_cons_succ] at q0b q1b
              clear hg2 g3 g4 hup2 hltp2
              clear m1 m2 m3 m4 m5 m6 z0 z1 z2 q0 q1 hcp
              generalize (w2.setCell ⟨w.heap.size + 1, 0, none⟩ (.slice A3 (s.out.length + 1) k3)) = W at *
              go_region
              go_wp2_with fail
              go_meet
              exact ⟨_, by rw [HGE.out], by rw [HGE.out]; exact ⟨(HG2.out.ni.setP _).drew, HG2.out.box.far (p := ⟨w.heap.size + 1 + 1, 0, none⟩) (by simp; omega) _, ex_drew (HG2.out.bel.setCell (show w.heap.size ≤ w.heap.size + 1 + 1 by omega) _)⟩⟩
            · have HGE : Hd (s.gap b true = ⟨s.out, s.put ++ b, s.drop, 0⟩) := ⟨by unfold GS.gap keepP; rw [if_pos HC.out, if_neg hkp]; simp⟩
              have hk0 : s.keep = 0 := by omega
              have HK0 := Hd.mk hk0
              clear hk0
              go_upto_region 11 with fail
              go_region
              go_wp2_with fail
              go_meet
              exact ⟨_, by rw [HGE.out, HK0.out], by rw [HGE.out]; exact ⟨(HGI.out.ni.setP _).drew, HGI.out.box.far (p := ⟨w.heap.size + 1 + 1, 0, none⟩) (by simp; omega) _, ex_drew (HGI.out.bel.setCell (show w.heap.size ≤ w.heap.size + 1 + 1 by omega) _)⟩⟩
          case rest =>
            obtain ⟨v2, rfl, hg4⟩ := hcut
            obtain ⟨bd7, bd8, bd9, bd10, bd11⟩ := HGB.out
            have bd9a := Int.le_of_eq bd9
            have bd9b := Int.le_of_eq bd9.symm
            clear bd9
            have HG4 := Hd.mk hg4
            obtain ⟨add, cd, ud, hvd, hltd, hud, hcd⟩ := (HDD.out.below hg4.bel).at_ hk2
            cases hvd
            obtain rfl := bools_at HDA.out hud
            clear m1 m2 m3 m4 m5 m6 z0 z1 z2 q0 q1 hcp
            obtain ⟨m1, m2, m3, m4, m5, m6⟩ := hg4.ni.cells
            have z0 := hg4.ni.O.lt
            have z1 := hg4.ni.P.lt
            have z2 := hg4.ni.D.lt
            have q0 := hg4.box.cell 0
            have q1 := hg4.box.cell 1
            simp only [List.getElem?_toArray, List.getElem?_cons_zero, List.getElem?_cons_succ] at q0 q1
            obtain ⟨A4, k4, rfl⟩ := own_form hg4.ni.own
            clear hg4 hud hltd HC
            generalize s.gap b true = s2 at *
            have HBY : Hd (s2.byte true = ⟨s2.out, s2.put, s2.drop + 1, s2.keep⟩) := ⟨rfl⟩
            go_wp2_with fail
            exact ⟨⟨k + 1, _, by omega, by go_num, by rw [HS.out, HBY.out], by rw [HS.out, HBY.out]; exact ⟨HG4.out.ni.setD _, HG4.out.box.far (p := ⟨w.heap.size + 1 + 1 + 1, 0, none⟩) (by simp; omega) _, HG4.out.bel.setCell (show w.heap.size ≤ w.heap.size + 1 + 1 + 1 by omega) _⟩⟩, by simp only [intOf]; omega⟩
    · obtain rfl : k = N := by omega
      have HPA : Hd (g.P[k]? = some g.e) := ⟨by rw [← hgl]; exact P_end g⟩
      have hbl := b_le HPA.out
      have HGB := Hd.mk (gap_bd (gst g k) g.e false bd5)
      have HALL : Hd (gather g = ((gst g k).gap g.e false).fin) := ⟨by rw [gst_all, hgl]⟩
      obtain rfl := strs_at HPA.out hup
      generalize gst g k = s at *
      generalize g.e = b at *
      have HGI := Hd.mk hgi
      obtain ⟨m1, m2, m3, m4, m5, m6⟩ := hgi.ni.cells
      have z0 := hgi.ni.O.lt
      have z1 := hgi.ni.P.lt
      have z2 := hgi.ni.D.lt
      have q0 := hgi.box.cell 0
      have q1 := hgi.box.cell 1
      simp only [List.getElem?_toArray, List.getElem?_cons_zero, List.getElem?_cons_succ] at q0 q1
      clear hgi hup hltp
      have hbl' : b.length ≤ 1099511627776 := by omega
      have hsl' : s.put.length ≤ 1099511627776 := by omega
      have hsd' : s.drop ≤ 68719476736 := by omega
      have hsk' : s.keep ≤ 68719476736 := by omega
      by_cases hb : b = []
      · subst hb
        have HC : Hd (¬ (([] : U.Bs) ≠ [] ∨ false = true)) := ⟨by simp⟩
        go_upto_if 36 with fail
        go_cut [6] (fun s6 wx => GapR w (.slice (some adp) (k + 1) c1) (.slice A2 k c2) (s.gap [] false) s6 wx)
        case first =>
          have HGE : Hd (s.gap [] false = s) := ⟨by unfold GS.gap; rw [if_neg HC.out]⟩
          go_wp2_with fail
          go_meet
          exact ⟨_, by rw [HGE.out], by rw [HGE.out]; exact HGI.out⟩
        case rest =>
          obtain ⟨v2, rfl, hg4⟩ := hcut
          obtain ⟨bd7, bd8, bd9, bd10, bd11⟩ := HGB.out
          have bd9a := Int.le_of_eq bd9
          have bd9b := Int.le_of_eq bd9.symm
          clear bd9
          have HG4 := Hd.mk hg4
          clear m1 m2 m3 m4 m5 m6 z0 z1 z2 q0 q1 hcp
          obtain ⟨m1, m2, m3, m4, m5, m6⟩ := hg4.ni.cells
          have z0 := hg4.ni.O.lt
          have z1 := hg4.ni.P.lt
          have z2 := hg4.ni.D.lt
          have q0 := hg4.box.cell 0
          have q1 := hg4.box.cell 1
          simp only [List.getElem?_toArray, List.getElem?_cons_zero, List.getElem?_cons_succ] at q0 q1
          obtain ⟨A4, k4, rfl⟩ := own_form hg4.ni.own
          clear hg4 HC
          generalize s.gap [] false = s2 at *
          have HL4 : Hd (s2.out.length + 1 ≤ 1099511627776) := ⟨by omega⟩
          by_cases hk3 : 0 < s2.keep
          · have HL1 : Hd (s2.out.length + 1 ≤ maxLen) := ⟨by unfold maxLen; omega⟩
            have HL2 : Hd ((s2.out.length + 1) * 32 ≤ 140737488355328) := ⟨by omega⟩
            have HL3 : Hd (w.heap.size + 1 + 3 ≤ wc.heap.size) := ⟨by have := HG4.out.ni.D.lt; omega⟩
            have HL4 : Hd ((s2.out ++ [(⟨s2.keep, 0, []⟩ : PT)]).length ≤ 1099511627776) := ⟨by rw [List.length_append]; exact HL4.out⟩
            have HFI : Hd (gather g = s2.out ++ [⟨s2.keep, 0, []⟩] ++ flushP s2.put s2.drop) := ⟨by rw [HALL.out]; unfold GS.fin keepP; rw [if_pos hk3]⟩
            go_upto_region 20 with (at_builtin; refine append_lit' el_part #[.int .i64 s2.keep, .int .i64 0, .string ⟨#[]⟩] HG4.out.ni.own rfl rfl rfl rfl (by simp) rfl (one3 rfl rfl rfl) HL1.out HL2.out HL3.out ?_; intro v3 w2 hown3 hbel3 hgr3 hnew3; obtain ⟨A3, k3, rfl⟩ := own_form hown3; have f1 := HG4.out.ni.O.below hbel3 (by omega); have g3 := f1.cell 0; have g4 := f1.frozen 0; simp only [List.getElem?_toArray, List.getElem?_cons_zero] at g3; have HG6 := Hd.mk (HG4.out.more rfl hown3 hbel3); clear f1 hown3 hbel3 hgr3 hnew3)
            have hq := HG6.out
            obtain ⟨m1b, m2b, m3b, m4b, m5b, m6b⟩ := hq.ni.cells
            have z0b := hq.ni.O.lt
            have z1b := hq.ni.P.lt
            have z2b := hq.ni.D.lt
            have q0b := hq.box.cell 0
            have q1b := hq.box.cell 1
            simp only [List.getElem?_toArray, List.getElem?_cons_zero, List.getElem?_cons_succ] at q0b q1b
            clear hq g3 g4
            clear m1 m2 m3 m4 m5 m6 z0 z1 z2 q0 q1
            generalize (w2.setCell ⟨w.heap.size + 1, 0, none⟩ (.slice A3 (s2.out.length + 1) k3)) = W at *
            go_wp2_with (go_at_call 157; refine (done_calls (out := (s2.out ++ [(⟨s2.keep, 0, []⟩ : PT)])) (base := w.heap.size + 1 + 3) (bp := w.heap.size + 1 + 1) (bo := w.heap.size + 1) (bd := w.heap.size + 1 + 1 + 1) (by omega) (le_al HG6.out) (by omega) HG6.out.ni.P HG6.out.ni.O HG6.out.ni.D HG6.out.ni.own HL4.out).mono ?_; rintro e w5 ⟨rfl, v5, f1, f2, f3, f4, f5⟩; obtain ⟨A5, k5, rfl⟩ := own_form f2; generalize hN5 : ((s2.out ++ [(⟨s2.keep, 0, []⟩ : PT)]) ++ flushP s2.put s2.drop).length = N5 at *; have HN5 := Hd.mk hN5; clear hN5; have g1 := f1.cell 0; simp only [List.getElem?_toArray, List.getElem?_cons_zero] at g1; have HF2 := Hd.mk f2; have HF5 := Hd.mk f5; clear f1 f2 f3 f4 f5)
            go_ret
            exact ⟨⟨⟨_, rfl, by rw [HFI.out, HN5.out]; exact Sl.of_own HF2.out⟩, fl_bel HG6.out.bel HG6.out.ni HF5.out⟩, frE1 ((Frs.of_own HF2.out).mono (by omega))⟩
          · have HFI : Hd (gather g = s2.out ++ flushP s2.put s2.drop) := ⟨by rw [HALL.out]; unfold GS.fin keepP; rw [if_neg hk3]; simp⟩
            have HL4 : Hd (s2.out.length ≤ 1099511627776) := ⟨by have := HL4.out; omega⟩
            go_wp2_with (go_at_call 157; refine (done_calls (out := s2.out) (base := w.heap.size + 1 + 3) (bp := w.heap.size + 1 + 1) (bo := w.heap.size + 1) (bd := w.heap.size + 1 + 1 + 1) (by omega) (le_al HG4.out) (by omega) HG4.out.ni.P HG4.out.ni.O HG4.out.ni.D HG4.out.ni.own HL4.out).mono ?_; rintro e w5 ⟨rfl, v5, f1, f2, f3, f4, f5⟩; obtain ⟨A5, k5, rfl⟩ := own_form f2; generalize hN5 : (s2.out ++ flushP s2.put s2.drop).length = N5 at *; have HN5 := Hd.mk hN5; clear hN5; have g1 := f1.cell 0; simp only [List.getElem?_toArray, List.getElem?_cons_zero] at g1; have HF2 := Hd.mk f2; have HF5 := Hd.mk f5; clear f1 f2 f3 f4 f5)
            go_ret
            exact ⟨⟨⟨_, rfl, by rw [HFI.out, HN5.out]; exact Sl.of_own HF2.out⟩, fl_bel HG4.out.bel HG4.out.ni HF5.out⟩, frE1 ((Frs.of_own HF2.out).mono (by omega))⟩
      · have hb' : (b == []) = false := by rw [beq_eq_false_iff_ne]; exact hb
        have HC : Hd (b ≠ [] ∨ false = true) := ⟨.inl hb⟩
        go_upto_if 36 with fail
        go_cut [6] (fun s6 wx => GapR w (.slice (some adp) (k + 1) c1) (.slice A2 k c2) (s.gap b false) s6 wx)
        case first =>
          by_cases hkp : 0 < s.keep
          · have HL1 : Hd (s.out.length + 1 ≤ maxLen) := ⟨by unfold maxLen; omega⟩
            have HL2 : Hd ((s.out.length + 1) * 32 ≤ 140737488355328) := ⟨by omega⟩
            have HL3 : Hd (w.heap.size + 1 + 3 ≤ wr.heap.size) := ⟨by have := HGI.out.ni.D.lt; omega⟩
            have HGE : Hd (s.gap b false = ⟨s.out ++ [⟨s.keep, 0, []⟩], s.put ++ b, s.drop, 0⟩) := ⟨by unfold GS.gap keepP; rw [if_pos HC.out, if_pos hkp]; try simp⟩
            go_upto_region 11 with (at_builtin; refine append_lit' el_part #[.int .i64 s.keep, .int .i64 0, .string ⟨#[]⟩] HGI.out.ni.own rfl rfl rfl rfl (by simp) rfl (one3 rfl rfl rfl) HL1.out HL2.out HL3.out ?_; intro v3 w2 hown3 hbel3 hgr3 hnew3; obtain ⟨A3, k3, rfl⟩ := own_form hown3; have f1 := HGI.out.ni.O.below hbel3 (by omega); have g3 := f1.cell 0; have g4 := f1.frozen 0; simp only [List.getElem?_toArray, List.getElem?_cons_zero] at g3; have HO3 := Hd.mk hown3; have HB3 := Hd.mk hbel3; clear f1 hown3 hbel3 hgr3 hnew3)
            have hg2 := HGI.out.more rfl HO3.out HB3.out
            have HG2 := Hd.mk hg2
            obtain ⟨adp2, cp2, up2, hvp2, hltp2, hup2, hcp2⟩ := (HPP.out.below hg2.bel).at_ (show k < k + 1 by omega)
            cases hvp2
            obtain rfl := strs_at HPA.out hup2
            obtain ⟨m1b, m2b, m3b, m4b, m5b, m6b⟩ := hg2.ni.cells
            have z0b := hg2.ni.O.lt
            have z1b := hg2.ni.P.lt
            have z2b := hg2.ni.D.lt
            have q0b := hg2.box.cell 0
            have q1b := hg2.box.cell 1
            simp only [List.getElem?_toArray, List.getElem?_cons_zero, List.getElem?_cons_succ] at q0b q1b
            clear hg2 g3 g4 hup2 hltp2
            clear m1 m2 m3 m4 m5 m6 z0 z1 z2 q0 q1 hcp
            generalize (w2.setCell ⟨w.heap.size + 1, 0, none⟩ (.slice A3 (s.out.length + 1) k3)) = W at *
            go_region
            go_wp2_with fail
            go_meet
            exact ⟨_, by rw [HGE.out], by rw [HGE.out]; exact ⟨(HG2.out.ni.setP _).drew, HG2.out.box.far (p := ⟨w.heap.size + 1 + 1, 0, none⟩) (by simp; omega) _, ex_drew (HG2.out.bel.setCell (show w.heap.size ≤ w.heap.size + 1 + 1 by omega) _)⟩⟩
          · have HGE : Hd (s.gap b false = ⟨s.out, s.put ++ b, s.drop, 0⟩) := ⟨by unfold GS.gap keepP; rw [if_pos HC.out, if_neg hkp]; simp⟩
            have hk0 : s.keep = 0 := by omega
            have HK0 := Hd.mk hk0
            clear hk0
            go_upto_region 11 with fail
            go_region
            go_wp2_with fail
            go_meet
            exact ⟨_, by rw [HGE.out, HK0.out], by rw [HGE.out]; exact ⟨(HGI.out.ni.setP _).drew, HGI.out.box.far (p := ⟨w.heap.size + 1 + 1, 0, none⟩) (by simp; omega) _, ex_drew (HGI.out.bel.setCell (show w.heap.size ≤ w.heap.size + 1 + 1 by omega) _)⟩⟩
        case rest =>
          obtain ⟨v2, rfl, hg4⟩ := hcut
          obtain ⟨bd7, bd8, bd9, bd10, bd11⟩ := HGB.out
          have bd9a := Int.le_of_eq bd9
          have bd9b := Int.le_of_eq bd9.symm
          clear bd9
          have HG4 := Hd.mk hg4
          clear m1 m2 m3 m4 m5 m6 z0 z1 z2 q0 q1 hcp
          obtain ⟨m1, m2, m3, m4, m5, m6⟩ := hg4.ni.cells
          have z0 := hg4.ni.O.lt
          have z1 := hg4.ni.P.lt
          have z2 := hg4.ni.D.lt
          have q0 := hg4.box.cell 0
          have q1 := hg4.box.cell 1
          simp only [List.getElem?_toArray, List.getElem?_cons_zero, List.getElem?_cons_succ] at q0 q1
          obtain ⟨A4, k4, rfl⟩ := own_form hg4.ni.own
          clear hg4 HC
          generalize s.gap b false = s2 at *
          have HL4 : Hd (s2.out.length + 1 ≤ 1099511627776) := ⟨by omega⟩
          by_cases hk3 : 0 < s2.keep
          · have HL1 : Hd (s2.out.length + 1 ≤ maxLen) := ⟨by unfold maxLen; omega⟩
            have HL2 : Hd ((s2.out.length + 1) * 32 ≤ 140737488355328) := ⟨by omega⟩
            have HL3 : Hd (w.heap.size + 1 + 3 ≤ wc.heap.size) := ⟨by have := HG4.out.ni.D.lt; omega⟩
            have HL4 : Hd ((s2.out ++ [(⟨s2.keep, 0, []⟩ : PT)]).length ≤ 1099511627776) := ⟨by rw [List.length_append]; exact HL4.out⟩
            have HFI : Hd (gather g = s2.out ++ [⟨s2.keep, 0, []⟩] ++ flushP s2.put s2.drop) := ⟨by rw [HALL.out]; unfold GS.fin keepP; rw [if_pos hk3]⟩
            go_upto_region 20 with (at_builtin; refine append_lit' el_part #[.int .i64 s2.keep, .int .i64 0, .string ⟨#[]⟩] HG4.out.ni.own rfl rfl rfl rfl (by simp) rfl (one3 rfl rfl rfl) HL1.out HL2.out HL3.out ?_; intro v3 w2 hown3 hbel3 hgr3 hnew3; obtain ⟨A3, k3, rfl⟩ := own_form hown3; have f1 := HG4.out.ni.O.below hbel3 (by omega); have g3 := f1.cell 0; have g4 := f1.frozen 0; simp only [List.getElem?_toArray, List.getElem?_cons_zero] at g3; have HG6 := Hd.mk (HG4.out.more rfl hown3 hbel3); clear f1 hown3 hbel3 hgr3 hnew3)
            have hq := HG6.out
            obtain ⟨m1b, m2b, m3b, m4b, m5b, m6b⟩ := hq.ni.cells
            have z0b := hq.ni.O.lt
            have z1b := hq.ni.P.lt
            have z2b := hq.ni.D.lt
            have q0b := hq.box.cell 0
            have q1b := hq.box.cell 1
            simp only [List.getElem?_toArray, List.getElem?_cons_zero, List.getElem?_cons_succ] at q0b q1b
            clear hq g3 g4
            clear m1 m2 m3 m4 m5 m6 z0 z1 z2 q0 q1
            generalize (w2.setCell ⟨w.heap.size + 1, 0, none⟩ (.slice A3 (s2.out.length + 1) k3)) = W at *
            go_wp2_with (go_at_call 157; refine (done_calls (out := (s2.out ++ [(⟨s2.keep, 0, []⟩ : PT)])) (base := w.heap.size + 1 + 3) (bp := w.heap.size + 1 + 1) (bo := w.heap.size + 1) (bd := w.heap.size + 1 + 1 + 1) (by omega) (le_al HG6.out) (by omega) HG6.out.ni.P HG6.out.ni.O HG6.out.ni.D HG6.out.ni.own HL4.out).mono ?_; rintro e w5 ⟨rfl, v5, f1, f2, f3, f4, f5⟩; obtain ⟨A5, k5, rfl⟩ := own_form f2; generalize hN5 : ((s2.out ++ [(⟨s2.keep, 0, []⟩ : PT)]) ++ flushP s2.put s2.drop).length = N5 at *; have HN5 := Hd.mk hN5; clear hN5; have g1 := f1.cell 0; simp only [List.getElem?_toArray, List.getElem?_cons_zero] at g1; have HF2 := Hd.mk f2; have HF5 := Hd.mk f5; clear f1 f2 f3 f4 f5)
            go_ret
            exact ⟨⟨⟨_, rfl, by rw [HFI.out, HN5.out]; exact Sl.of_own HF2.out⟩, fl_bel HG6.out.bel HG6.out.ni HF5.out⟩, frE1 ((Frs.of_own HF2.out).mono (by omega))⟩
          · have HFI : Hd (gather g = s2.out ++ flushP s2.put s2.drop) := ⟨by rw [HALL.out]; unfold GS.fin keepP; rw [if_neg hk3]; simp⟩
            have HL4 : Hd (s2.out.length ≤ 1099511627776) := ⟨by have := HL4.out; omega⟩
            go_wp2_with (go_at_call 157; refine (done_calls (out := s2.out) (base := w.heap.size + 1 + 3) (bp := w.heap.size + 1 + 1) (bo := w.heap.size + 1) (bd := w.heap.size + 1 + 1 + 1) (by omega) (le_al HG4.out) (by omega) HG4.out.ni.P HG4.out.ni.O HG4.out.ni.D HG4.out.ni.own HL4.out).mono ?_; rintro e w5 ⟨rfl, v5, f1, f2, f3, f4, f5⟩; obtain ⟨A5, k5, rfl⟩ := own_form f2; generalize hN5 : (s2.out ++ flushP s2.put s2.drop).length = N5 at *; have HN5 := Hd.mk hN5; clear hN5; have g1 := f1.cell 0; simp only [List.getElem?_toArray, List.getElem?_cons_zero] at g1; have HF2 := Hd.mk f2; have HF5 := Hd.mk f5; clear f1 f2 f3 f4 f5)
            go_ret
            exact ⟨⟨⟨_, rfl, by rw [HFI.out, HN5.out]; exact Sl.of_own HF2.out⟩, fl_bel HG4.out.bel HG4.out.ni HF5.out⟩, frE1 ((Frs.of_own HF2.out).mono (by omega))⟩
theorem gather_calls {g : SS} {vp vd : Value} {N : Nat} {w : World} (hp : Sl w 1 vp (N + 1) (strs g.P)) (hd : Sl w 1 vd N (bools g.D)) (hN : N ≤ 68719476736) (hl : plg g ≤ 1099511627776) :
    Calls Tryz.prog 129 #[.agg #[vp, vd]] w (NormPost (gather g) w) := (gather_new hp hd hN hl).mono fun _ _ h => h.1
end
theorem plg_spread (l : List PT) : plg (spread l) = plen l := by
  suffices hs : ∀ S : SS, plg (l.foldl SS.step S) = plg S + plen l by
    have := hs .zero
    simpa [spread, plg, SS.P, SS.zero] using this
  have ht : ∀ (x : Bool) (m : Nat) (S : SS), plg (SS.take x m S) = plg S := by
    intro x m S
    unfold plg
    rw [SS.take_P]; simp
  induction l with
  | nil => intro S; simp [plen]
  | cons p l ih =>
    intro S
    rw [List.foldl_cons, ih, plen]
    unfold SS.step
    rw [ht, ht]
    unfold plg SS.P
    simp; omega
end Go.Proofs.YtdgdajnbkfmijaaGreatDoor
