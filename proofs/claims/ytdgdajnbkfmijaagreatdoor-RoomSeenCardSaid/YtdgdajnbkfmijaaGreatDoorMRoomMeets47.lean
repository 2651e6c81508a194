/- Several texts of the proof, one behind the other: RoomH, MetP, RoomN, KMet, KPlays, KPlay0, RoomO. -/
import Derived.Test.YtdgdajnbkfmijaaGreatDoorMRoomMeets46
import Derived.Deep.LoopGhost
import Derived.Test.YtdgdajnbkfmijaaGreatDoorMRoomMeets39
import Derived.Test.YtdgdajnbkfmijaaGreatDoorMRoomMeets45
import Derived.Test.YtdgdajnbkfmijaaGreatDoorMRoomMeets13
import Derived.Test.YtdgdajnbkfmijaaGreatDoorMRoomMeets26
import Derived.Test.YtdgdajnbkfmijaaGreatDoorMRoomMeets16
/- A room's flows and Quiet. -/
namespace Go.Proofs.YtdgdajnbkfmijaaGreatDoor
open Go.RowKit Go.Sort
set_option maxRecDepth 100000
section
attribute [local go_sem] add_mk
variable {F : Nat → Prop} {w : World} {r : RP} {R : RM} {N B : Int}
/-- What flows so far. -/
structure FlI (F : Nat → Prop) (r : RP) (R : RM) (N B : Int) (w : World) (n : Nat) (Rk : RM) (wr : World) : Prop where
  wt : wts Rk.way = n
  ok : RMb N B Rk
  fl : Rk.flows = R.flows
  cl : Rk.cl.length = R.cl.length
  rm : RmS F r Rk w wr
set_option maxHeartbeats 8000000 in
theorem rmflows_calls (h : RmR w F r R) (hb : RMb N B R) (hN : N ≤ 1000000) (hB : B ≤ 700000000) (hcl : R.cl.length ≤ 1000000) :
    Calls Tryz.prog 68 #[.pointer (some ⟨r.a, 0, none⟩)] w fun e w' => e = .returned (.tuple #[]) ∧ RmS F r R.flows w w' := by
  have HL := Hd.mk h
  have HN := Hd.mk (And.intro hN (And.intro hB hcl))
  have HS := Hd.mk (FlI.mk (F := F) (r := r) (R := R) (N := N) (B := B) (w := w) (n := wts R.way) (Rk := R) (wr := w) rfl hb rfl rfl (RmS.of_below h (Below.refl _ _)))
  obtain ⟨n0, hn0⟩ : ∃ n, n = wts R.way := ⟨_, rfl⟩
  rw [← hn0] at HS
  clear h hb hN hB hcl hn0
  go_enter Tryz.func68, Tryz.ntmps68
  go_wp2_with fail
  go_loopg [] n0 (fun gk wr => ∃ Rk : RM, FlI F r R N B w gk Rk wr)
  case atStart => exact ⟨R, HS.out⟩
  case round =>
    obtain ⟨Rk, hI⟩ := hrel
    have HI := Hd.mk hI
    obtain ⟨r1, F1, ha, hcs, hR, ho, hoF, hgr, hnx⟩ := RmS.next HL.out hI.rm
    obtain ⟨z0, z1, z2, z3⟩ := four_cells hR.blk
    obtain ⟨A, c, hv⟩ := own_form hR.own
    rw [hv, hR.wl] at z2
    rw [ha.1] at z2
    have HR := Hd.mk hR
    have HA := Hd.mk ha.1
    have HNX := Hd.mk hnx
    have lt := hR.blk.lt
    rw [ha.1] at lt
    clear HS hI hcs ho hoF hgr hnx hv z0 z1 z3 ha hR
    by_cases hw : Rk.way = []
    · have hl : Rk.way.length = 0 := by rw [hw]; rfl
      have HW := Hd.mk hw
      clear hw
      go_wp2_with fail
      go_end0
      have h1 := HI.out.fl
      rw [RM.flows_nil HW.out] at h1
      rw [← h1]
      exact ⟨rfl, HI.out.rm⟩
    · have hl : 0 < Rk.way.length := List.length_pos_iff.2 hw
      have HW := Hd.mk hw
      have hD := rmdeliver_calls HR.out HI.out.ok HN.out.1 HN.out.2.1 hl (by rw [HI.out.cl]; exact HN.out.2.2)
      rw [HA.out] at hD
      have HD := Hd.mk hD
      clear hw hD
      go_wp2_with (go_at_call 41; refine HD.out.mono ?_; rintro e w3 ⟨rfl, h3⟩; have H3 := Hd.mk h3; clear h3)
      go_roundg (wts (Rk.deliver 0).way)
      case measure =>
        cases hl2 : Rk.way with
        | nil => exact absurd hl2 HW.out
        | cons p l =>
          have := HI.out.ok.ok.lighter hl2
          rw [HI.out.wt] at this
          exact this
      case rel =>
        exact ⟨Rk.deliver 0, rfl, HI.out.ok.deliver 0, by rw [← HI.out.fl, HI.out.ok.ok.flows_cons HW.out], by rw [Rk.deliver_cl 0]; exact HI.out.cl, HNX.out _ _ H3.out⟩
/-- What a round has made so far. -/
structure QuI (F : Nat → Prop) (r : RP) (R : RM) (N B : Int) (w : World) (n : Nat) (wr : World) : Prop where
  ok : RMb N (B + n * 1000) (R.flows.turns n)
  rm : RmS F r (R.flows.turns n) w wr
set_option maxHeartbeats 8000000 in
theorem rmquiet_calls (h : RmR w F r R) (hb : RMb N B R) (hN : N ≤ 1000000) (hB : B ≤ 600000000) (hcl : R.cl.length ≤ 1000) :
    Calls Tryz.prog 32 #[.pointer (some ⟨r.a, 0, none⟩)] w fun e w' => e = .returned (.tuple #[]) ∧ RmS F r R.quiet w w' := by
  have HL := Hd.mk h
  have HN := Hd.mk (And.intro hN (And.intro hB hcl))
  have HFL := Hd.mk (rmflows_calls h hb hN (by omega) (by omega))
  have hfc := hb.ok.flows_cl
  have HFC := Hd.mk hfc
  have HFB := Hd.mk hb.flows
  have HFW := Hd.mk hb.ok.flows.2
  clear h hb hN hB
  go_enter Tryz.func32, Tryz.ntmps32
  go_wp2_with fail
  refine HFL.out.mono ?_
  rintro e w1 ⟨rfl, h1⟩
  obtain ⟨r1, F1, ha, hcs, hR, ho, hoF, hgr, hnx⟩ := RmS.next HL.out h1
  obtain ⟨z0, z1, z2, z3⟩ := four_cells hR.blk
  obtain ⟨A, c, hv, -⟩ := hR.vcs
  rw [hv, hR.len, hfc] at z1
  rw [ha.1] at z1
  have lt := hR.blk.lt
  rw [ha.1] at lt
  have H1 := Hd.mk h1
  obtain ⟨m, hm⟩ : ∃ m, m = R.cl.length := ⟨_, rfl⟩
  rw [← hm] at z1
  have hml : m ≤ 1000 := by omega
  have HM := Hd.mk hm
  clear h1 ha hcs hR ho hoF hgr hnx hv z0 z2 z3 hfc hcl hm
  go_wp2_with fail
  go_loopw [10] (fun i wr => ∃ j : Nat, j ≤ m ∧ i = .int .i64 j ∧ QuI F r R N B w j wr) (fun i _ => m - (intOf i).toNat)
  case atStart => exact ⟨0, by omega, rfl, by simpa [RM.turns] using HFB.out, by simpa [RM.turns] using H1.out⟩
  case round =>
    obtain ⟨j, hj, rfl, hq⟩ := hrel
    have HQ := Hd.mk hq
    clear hq z1
    by_cases hjm : j < m
    · have htl := (HFB.out.ok.turns HFW.out j).2.2.1
      obtain ⟨C, hC⟩ : ∃ C, (R.flows.turns j).cl[j]? = some C := ⟨_, List.getElem?_eq_getElem (by rw [htl, HFC.out, ← HM.out]; exact hjm)⟩
      obtain ⟨r1, F1, ha, hcs, hR, ho, hoF, hgr, hnx⟩ := RmS.next HL.out HQ.out.rm
      have hsd := rmsend_calls hR HQ.out.ok HN.out.1 (by have := HN.out.2.1; omega) hC
      rw [ha.1] at hsd
      have HSD := Hd.mk hsd
      have HNX := Hd.mk hnx
      have HA := Hd.mk (And.intro ha hR)
      have HTL := Hd.mk htl
      clear ha hcs hR ho hoF hgr hnx hsd hC htl
      go_wp2_with (go_at_call 38; refine HSD.out.mono ?_; rintro e w2 ⟨rfl, h2⟩; have H2 := Hd.mk h2; clear h2)
      obtain ⟨r2, F2, ha2, hcs2, hR2, ho2, hoF2, hgr2, hnx2⟩ := RmS.next HA.out.2 H2.out
      have hfl := rmflows_calls hR2 (HQ.out.ok.asks j) HN.out.1 (by have := HN.out.2.1; omega) (by rw [(RM.asks_srv _ _).2, HTL.out, HFC.out]; have := HN.out.2.2; omega)
      rw [ha2.1, HA.out.1.1] at hfl
      have HFL2 := Hd.mk hfl
      have HNX2 := Hd.mk hnx2
      clear hfl ha2 hcs2 hR2 ho2 hoF2 hgr2 hnx2
      go_wp2_with (go_at_call 68; refine HFL2.out.mono ?_; rintro e w3 ⟨rfl, h3⟩; have H3 := Hd.mk h3; clear h3)
      refine ⟨⟨j + 1, by omega, by go_num, ?_, ?_⟩, by simp only [intOf]; omega⟩
      · rw [RM.turns_succ]
        have := (HQ.out.ok.asks j).flows
        exact this.mono (Int.le_refl _) (by omega)
      · rw [RM.turns_succ]
        exact HNX.out _ _ (HNX2.out _ _ H3.out)
    · obtain rfl : j = m := by omega
      go_wp2_with fail
      go_end0
      have := HQ.out.rm
      rw [HM.out] at this
      exact ⟨rfl, this⟩
end
end Go.Proofs.YtdgdajnbkfmijaaGreatDoor
/- keep.met in plain Lean: two clients that write at once. -/
namespace Go.Proofs.YtdgdajnbkfmijaaGreatDoor
open Go.RowKit
set_option maxRecDepth 100000
abbrev mtX : List PT := [⟨0, 0, [120]⟩, ⟨1, 0, []⟩]
abbrev mtY : List PT := [⟨1, 0, []⟩, ⟨0, 0, [121]⟩]
theorem mt_all : U.AllR [45] := by intro r hr; obtain rfl := List.mem_singleton.1 hr; decide
theorem mt_s (r : Int) (hr : r = 120 ∨ r = 121) : U.AllR [r] := by intro x hx; obtain rfl := List.mem_singleton.1 hx; rcases hr with rfl | rfl <;> decide
theorem mt_gx : ∀ p ∈ mtX, p.Good := by
  intro p hp
  rcases List.mem_cons.1 hp with rfl | hp
  · exact ⟨by decide, [120], U.sp_encs (mt_s 120 (.inl rfl))⟩
  · obtain rfl := List.mem_singleton.1 hp
    exact ⟨by decide, [], sp_nil⟩
theorem mt_gy : ∀ p ∈ mtY, p.Good := by
  intro p hp
  rcases List.mem_cons.1 hp with rfl | hp
  · exact ⟨by decide, [], sp_nil⟩
  · obtain rfl := List.mem_singleton.1 hp
    exact ⟨by decide, [121], U.sp_encs (mt_s 121 (.inr rfl))⟩
theorem mt_of {u : Int} (hu : u = 1 ∨ u = 2) : (cnt [45]).of u = 1 ∧ (cnt []).of u = 0 := by
  rcases hu with rfl | rfl <;> decide
theorem mt_a0 {u : Int} (hu : u = 1 ∨ u = 2) : AheadR u 0 [45] Cn.zero (erV 0) := by
  have h := Pl.ahead (u := u) (at_ := 0) (R := [45]) (c := cnt []) (by omega) ⟨[], [45], rfl, (mt_of hu).2, rfl⟩
  rwa [cnt_nil] at h
theorem mt_a1 {u : Int} (hu : u = 1 ∨ u = 2) : AheadR u 1 [45] (cnt [45]) (erV 0) := Pl.ahead (by omega) ⟨[45], [], rfl, (mt_of hu).1, rfl⟩
theorem mt_tx {u : Int} (hu : u = 1 ∨ u = 2) : tnF [45] u 1 Cn.zero 0 mtX = (mtX, 0) := by
  rw [tnF_step (mt_a0 hu), tnF_step (mt_a1 hu)]
  rfl
theorem mt_ty {u : Int} (hu : u = 1 ∨ u = 2) : tnF [45] u 1 Cn.zero 0 mtY = (mtY, 0) := by
  rw [tnF_step (mt_a1 hu), tnF_step (mt_a1 hu)]
  rfl
theorem mt_x {u : Int} (hu : u = 1 ∨ u = 2) : tnc [45] mtX u 1 = (mtX, 0) := by
  unfold tnc
  rw [if_neg (fun h => h ⟨by omega, by decide⟩), if_neg (fun h => h (chk_of mt_gx (by rw [(mt_of hu).1]; rfl))), mt_tx hu]
  rfl
theorem mt_y {u : Int} (hu : u = 1 ∨ u = 2) : tnc [45] mtY u 1 = (mtY, 0) := by
  unfold tnc
  rw [if_neg (fun h => h ⟨by omega, by decide⟩), if_neg (fun h => h (chk_of mt_gy (by rw [(mt_of hu).1]; rfl))), mt_ty hu]
  rfl
/-- A new room. -/
def RM.new (R : List Int) (us : List Int) : RM := ⟨SV.new (U.encs R), us.zipIdx.map (fun p => CV.new p.2 p.1 R), [], 0⟩
theorem RM.new_cl {R us : List Int} {k : Nat} {c : CV} (h : (RM.new R us).cl[k]? = some c) : ∃ u, us[k]? = some u ∧ c = CV.new k u R := by
  unfold RM.new at h
  dsimp only at h
  rw [List.getElem?_map, List.getElem?_zipIdx] at h
  cases hu : us[k]? with
  | none => rw [hu] at h; simp at h
  | some u => rw [hu] at h; simp at h; exact ⟨u, rfl, h.symm⟩
theorem RMok.new {R us : List Int} (hR : U.AllR R) (hb : bl R ≤ 2000) (hu : ∀ u ∈ us, 1 ≤ u ∧ u ≤ 3) : RMok 0 (RM.new R us) ∧ (RM.new R us).srv.No8 := by
  refine ⟨⟨SVok.new hR hb, Nat.zero_le _, fun k c hc => ?_, (fun p hp => by cases hp), Nat.zero_le _⟩, fun k i x hx => by cases hx⟩
  obtain ⟨u, h1, rfl⟩ := RM.new_cl hc
  exact ⟨rfl, COk.new (hu u (List.mem_of_getElem? h1)) hR hb, Nat.zero_le _, rfl, (fun n e _ he => by cases he), (fun n e he => by cases he), (fun i x hx => by cases hx), (fun i x hx => by cases hx)⟩
/-- The room that met makes, with both edits. -/
noncomputable def mtR : RM := ((RM.new [45] [1, 2]).edit 0 mtX).edit 1 mtY
theorem mt_e0 : (CV.new 0 1 [45]).edit mtX = (0, ((CV.new 0 1 [45]).edit mtX).2) ∧ ((CV.new 0 1 [45]).edit mtX).2.has = true ∧ ((CV.new 0 1 [45]).edit mtX).2.more = false ∧ ((CV.new 0 1 [45]).edit mtX).2.id = 1 ∧ ((CV.new 0 1 [45]).edit mtX).2.rev = 0 ∧ ((CV.new 0 1 [45]).edit mtX).2.way = mtX := by
  have h := mt_x (u := 1) (.inl rfl)
  have e : (CV.new 0 1 [45]).edit mtX = (0, { CV.new 0 1 [45] with doc := rpl mtX [45], id := 1, way := mtX, has := true, waits := [], more := false }) := by
    unfold CV.edit
    rw [if_neg (by decide)]
    have h2 : tnc (CV.new 0 1 [45]).doc mtX (CV.new 0 1 [45]).unit 1 = (mtX, 0) := h
    rw [h2]
    rw [if_neg (fun h => h rfl), if_neg (by decide)]
    rfl
  rw [e]
  exact ⟨rfl, rfl, rfl, rfl, rfl, rfl⟩
theorem mt_e1 : (CV.new 1 2 [45]).edit mtY = (0, ((CV.new 1 2 [45]).edit mtY).2) ∧ ((CV.new 1 2 [45]).edit mtY).2.has = true ∧ ((CV.new 1 2 [45]).edit mtY).2.more = false ∧ ((CV.new 1 2 [45]).edit mtY).2.id = 1 ∧ ((CV.new 1 2 [45]).edit mtY).2.rev = 0 ∧ ((CV.new 1 2 [45]).edit mtY).2.way = mtY := by
  have h := mt_y (u := 2) (.inr rfl)
  have e : (CV.new 1 2 [45]).edit mtY = (0, { CV.new 1 2 [45] with doc := rpl mtY [45], id := 1, way := mtY, has := true, waits := [], more := false }) := by
    unfold CV.edit
    rw [if_neg (by decide)]
    have h2 : tnc (CV.new 1 2 [45]).doc mtY (CV.new 1 2 [45]).unit 1 = (mtY, 0) := h
    rw [h2]
    rw [if_neg (fun h => h rfl), if_neg (by decide)]
    rfl
  rw [e]
  exact ⟨rfl, rfl, rfl, rfl, rfl, rfl⟩
theorem mtR_eq : mtR = ⟨SV.new [45], [((CV.new 0 1 [45]).edit mtX).2, ((CV.new 1 2 [45]).edit mtY).2], [], 0⟩ := rfl
theorem mtR_ok : RMok 2 mtR ∧ mtR.srv.No8 := by
  obtain ⟨h1, h2⟩ := RMok.new (R := [45]) (us := [1, 2]) mt_all (by decide) (by decide)
  exact ⟨(h1.edit 0 mtX).edit 1 mtY, by rw [mtR_eq]; exact fun k i x hx => by cases hx⟩
theorem mt_do0 : (SV.new [45]).does 0 1 0 mtX = (0, ⟨[[45], [120, 45]], [⟨0, 1, mtX⟩], fun _ => none, 0⟩) := by
  have hk : chk mtX ((([45] : U.Bs).length : Nat) : Int) = 0 := chk_of mt_gx rfl
  have ha : apc mtX [45] = 0 := by unfold apc; rw [if_pos hk]; rfl
  have hr : apr mtX [45] = [120, 45] := by unfold apr; rw [if_pos ha]; rfl
  have hf : folt mtX ((SV.new [45]).log.drop (0 : Int).toNat) = mtX := rfl
  have hd : (SV.new [45]).doc = [45] := rfl
  unfold SV.does
  rw [if_neg (by decide), if_neg (by decide), if_neg (fun h => h hk), hf, hd, if_neg (fun h => h ha), hr, if_neg (by decide)]
  rfl
noncomputable def mtS1 : SV := ((SV.new [45]).take 0 1 0 mtX).2
theorem mt_s1 : mtS1 = ⟨[[45], [120, 45]], [⟨0, 1, mtX⟩], fun x => if x = 0 then some (1, 0) else none, 1⟩ := by
  unfold mtS1 SV.take SV.fresh
  rw [show (SV.new [45]).last 0 = none from rfl]
  dsimp only
  rw [mt_do0]
  rfl
theorem mt_tr : trl false mtY mtX = [⟨2, 0, []⟩, ⟨0, 0, [121]⟩] := by
  unfold trl
  have e1 : expand (norm mtY) = [PT.k1, PT.byte 121] := by rfl
  have e2 : expand (norm mtX) = [PT.byte 120, PT.k1] := by rfl
  rw [e1, e2]
  simp [tr, isPut, PT.byte, PT.k1]
  rfl
theorem mt_gz : ∀ p ∈ ([⟨2, 0, []⟩, ⟨0, 0, [121]⟩] : List PT), p.Good := by
  intro p hp
  rcases List.mem_cons.1 hp with rfl | hp
  · exact ⟨by decide, [], sp_nil⟩
  · obtain rfl := List.mem_singleton.1 hp
    exact ⟨by decide, [121], U.sp_encs (mt_s 121 (.inr rfl))⟩
theorem mt_do1 : (mtS1.does 1 1 0 mtY).2.docs = [[45], [120, 45], [120, 45, 121]] ∧ (mtS1.does 1 1 0 mtY).2.log.length = 2 := by
  rw [mt_s1]
  have hk : chk mtY ((([45] : U.Bs).length : Nat) : Int) = 0 := chk_of mt_gy rfl
  have hk2 : chk [⟨2, 0, []⟩, ⟨0, 0, [121]⟩] ((([120, 45] : U.Bs).length : Nat) : Int) = 0 := chk_of mt_gz rfl
  have ha : apc [⟨2, 0, []⟩, ⟨0, 0, [121]⟩] [120, 45] = 0 := by unfold apc; rw [if_pos hk2]; rfl
  have hr : apr [⟨2, 0, []⟩, ⟨0, 0, [121]⟩] [120, 45] = [120, 45, 121] := by unfold apr; rw [if_pos ha]; rfl
  obtain ⟨S, hS⟩ : ∃ S : SV, S = ⟨[[45], [120, 45]], [⟨0, 1, mtX⟩], fun x => if x = 0 then some (1, 0) else none, 1⟩ := ⟨_, rfl⟩
  have hf : folt mtY (S.log.drop (0 : Int).toNat) = [⟨2, 0, []⟩, ⟨0, 0, [121]⟩] := by rw [hS]; exact mt_tr
  have hd : S.doc = [120, 45] := by rw [hS]; rfl
  have h1 : ¬ ((0 : Int) < 0 ∨ (S.log.length : Int) < 0) := by rw [hS]; decide
  have h2 : ¬ (300 ≤ S.log.length) := by rw [hS]; decide
  have h3 : chk mtY ((((S.docs[(0 : Int).toNat]?).getD []).length : Nat) : Int) = 0 := by rw [hS]; exact hk
  rw [← hS]
  unfold SV.does
  rw [if_neg h1, if_neg h2, if_neg (fun h => h h3), hf, hd, if_neg (fun h => h ha), hr, if_neg (by decide), hS]
  exact ⟨rfl, rfl⟩
theorem mt_s2 : ((mtS1.take 1 1 0 mtY).2).doc = [120, 45, 121] := by
  have e : mtS1.take 1 1 0 mtY = mtS1.fresh 1 1 0 mtY := by
    unfold SV.take
    rw [mt_s1]
    rfl
  obtain ⟨h1, h2⟩ := mt_do1
  rw [e]
  unfold SV.fresh SV.doc
  dsimp only
  rw [h1, h2]
  rfl
/-- What met sees. -/
theorem mt_met : mtR.quiet.quiet.Met ∧ mtR.quiet.quiet.srv.doc = [120, 45, 121] := by
  obtain ⟨h, h8⟩ := mtR_ok
  obtain ⟨-, x1, x2, x3, x4, x5⟩ := mt_e0
  obtain ⟨-, y1, y2, y3, y4, y5⟩ := mt_e1
  have hp : ∀ j, mtR.pend j ≤ 1 := by
    intro j
    rw [mtR_eq]
    unfold RM.pend
    dsimp only
    match j with
    | 0 => show CV.pend _ ≤ 1; unfold CV.pend; rw [x1, x2]; decide
    | 1 => show CV.pend _ ≤ 1; unfold CV.pend; rw [y1, y2]; decide
    | j + 2 => exact Nat.zero_le _
  obtain ⟨m1, m2⟩ := h.meets2 h8 hp
  refine ⟨m1, ?_⟩
  rw [m2]
  have hw : mtR.way = [] := by rw [mtR_eq]
  have e0 : mtR.quiet = (mtR.turn 0).turn 1 := by unfold RM.quiet; rw [RM.flows_nil hw, mtR_eq]; rfl
  have hc0 : mtR.cl[0]? = some ((CV.new 0 1 [45]).edit mtX).2 := by rw [mtR_eq]; rfl
  obtain ⟨S1, c1, t1, t2, -, -, -, t3⟩ := h.turn_spec h8 hw hc0
  have t3 : S1 = mtS1 := by rw [t3, x1, x3, x4, x5, mtR_eq]; rfl
  have hk := h.turn 0
  have hc1 : (mtR.turn 0).cl[1]? = some ((CV.new 1 2 [45]).edit mtY).2 := by rw [t1, mtR_eq]; rfl
  obtain ⟨S2, c2, u1, -, -, -, -, u3⟩ := hk.1.turn_spec (by rw [t1]; exact t2) hk.2.1 hc1
  rw [e0, u1]
  dsimp only
  rw [u3, y1, y3, y4, y5, t1, if_pos rfl]
  dsimp only
  rw [t3]
  exact mt_s2
end Go.Proofs.YtdgdajnbkfmijaaGreatDoor
/- A new room. -/
namespace Go.Proofs.YtdgdajnbkfmijaaGreatDoor
open Go.RowKit Go.Sort
set_option maxRecDepth 100000
theorem el_cptr : El Tryz.prog 129 73 1 8 := El.mk' Tryz.underlying129 (by kernel_rfl) (by decide)
/-- All that may turn of a room that is made. -/
def RNF (g : Nat) (s : SP) (vc : Value) (cs : List CP) (j : Nat) : Prop := j = g ∨ vc.ownBlock = some j ∨ s.F j ∨ ∃ (i : Nat) (c : CP), cs[i]? = some c ∧ c.F j
/-- A room that is made. -/
structure RNI (w wr : World) (g : Nat) (s : SP) (vc : Value) (cs : List CP) (us : List Int) (R : List Int) : Prop where
  bel : Below w.heap.size w wr
  blk : Blk wr g 132 #[.pointer (some ⟨s.a, 0, none⟩), vc, .slice none 0 0, .int .i64 0]
  srv : SrvR wr (RNF g s vc cs) s (SV.new (U.encs R))
  cli : ∀ (i : Nat) (c : CP), cs[i]? = some c → ∃ u, us[i]? = some u ∧ CliR wr (RNF g s vc cs) c (CV.new i u R)
  own : wr.ownsRow w.heap.size 73 1 vc cs.length (ptrs cs)
  ap : ∀ (i j : Nat) (c c' : CP), i ≠ j → cs[i]? = some c → cs[j]? = some c' → c.a ≠ c'.a ∧ c.f ≠ c'.f
  new : ∀ j, RNF g s vc cs j → w.heap.size ≤ j
section
variable {w wr w1 w2 w3 : World} {g : Nat} {s : SP} {vc v' : Value} {cs : List CP} {us R : List Int} {c : CP} {u : Int}
theorem RNI.s_ty (h : RNI w wr g s vc cs us R) {j : Nat} (hj : s.F j) : j ≠ g ∧ vc.ownBlock ≠ some j := by
  refine ⟨fun e => ?_, fun e => ?_⟩
  · subst e
    have h1 := h.blk.tyo
    rcases h.srv.ty hj with h2 | h2 | h2 <;> rw [h1] at h2 <;> exact absurd h2 (by decide)
  · have h1 := own_ty h.own e
    rcases h.srv.ty hj with h2 | h2 | h2 <;> rw [h1] at h2 <;> exact absurd h2 (by decide)
theorem RNI.c_ty (h : RNI w wr g s vc cs us R) {i : Nat} {c : CP} (hc : cs[i]? = some c) {j : Nat} (hj : c.F j) : j ≠ g ∧ vc.ownBlock ≠ some j := by
  obtain ⟨u, -, hC⟩ := h.cli i c hc
  obtain ⟨t1, t2⟩ := hC.ty
  refine ⟨fun e => ?_, fun e => ?_⟩
  · have h1 := h.blk.tyo
    rcases hj with e1 | e1
    · rw [← e1, e, h1] at t1; exact absurd t1 (by decide)
    · rw [← e1, e, h1] at t2; exact absurd t2 (by decide)
  · have h1 := own_ty h.own e
    rcases hj with e1 | e1
    · rw [e1, t1] at h1; exact absurd h1 (by decide)
    · rw [e1, t2] at h1; exact absurd h1 (by decide)
theorem RNI.g_ty (h : RNI w wr g s vc cs us R) : vc.ownBlock ≠ some g := fun e => by
  have h1 := own_ty h.own e
  rw [h.blk.tyo] at h1
  exact absurd h1 (by decide)
/-- One client more. -/
theorem RNI.more (h : RNI w wr g s vc cs us R) (hu : us[cs.length]? = some u) (h1 : Below wr.heap.size wr w1) (hc : ∀ j, c.F j → wr.heap.size ≤ j) (hcl : ∀ F, (∀ j, c.F j → F j) → (∀ j, F j → c.F j ∨ j < wr.heap.size) → CliR w1 F c (CV.new cs.length u R))
    (h2 : Below w1.heap.size w1 w2) (h3 : w3.ownsRow w.heap.size 73 1 v' (cs.length + 1) (ptrs cs ++ [.pointer (some ⟨c.a, 0, none⟩)])) (hg : w2.grownBy w3 vc.ownBlock) (hn : ∀ k, v'.ownBlock = some k → vc.ownBlock = some k ∨ w2.heap.size ≤ k) :
    RNI w (w3.setCell ⟨g, 1, none⟩ v') g s v' (cs ++ [c]) us R := by
  have z0 := h.bel.size
  have z1 := h1.size
  have z2 := h2.size
  have hlt := h.srv.flt
  have hO3 : Only (fun j => j = g) w3 (w3.setCell ⟨g, 1, none⟩ v') := (Only.refl (fun j => j = g) w3).setCell (p := ⟨g, 1, none⟩) (.inl rfl) _
  have hO2 := Only.of_grown hg
  have z3 := hO2.size
  have z4 := hO3.size
  have hgo : ∀ G0 w0, Only G0 w0 w2 → (∀ j, G0 j → False) → Only (fun j => j = g ∨ vc.ownBlock = some j) w0 (w3.setCell ⟨g, 1, none⟩ v') := fun G0 w0 h0 h0f => ((h0.mono (fun j _ e => (h0f j e).elim)).trans (hO2.mono (fun j _ e => .inr e.symm))).trans (hO3.mono (fun j _ e => .inl e))
  have hOr := hgo _ wr (Only.of_below (S := fun _ => False) (bstep h1 h2)) (fun _ e => e)
  have hO1 := hgo _ w1 (Only.of_below (S := fun _ => False) h2) (fun _ e => e)
  have hget : ∀ i ci, (cs ++ [c])[i]? = some ci → cs[i]? = some ci ∨ (i = cs.length ∧ ci = c) := fun i ci hi => getElem?_snoc hi
  have hlast : (cs ++ [c])[cs.length]? = some c := by simp
  have hin : ∀ i ci, cs[i]? = some ci → (cs ++ [c])[i]? = some ci := fun i ci hi => by rw [List.getElem?_append_left (List.getElem?_eq_some_iff.1 hi).1]; exact hi
  have hF : ∀ j, RNF g s v' (cs ++ [c]) j → RNF g s vc cs j ∨ c.F j ∨ (v'.ownBlock = some j ∧ w2.heap.size ≤ j) := by
    rintro j (e | e | e | ⟨i, ci, hi, e⟩)
    · exact .inl (.inl e)
    · rcases hn j e with e2 | e2
      · exact .inl (.inr (.inl e2))
      · exact .inr (.inr ⟨e, e2⟩)
    · exact .inl (.inr (.inr (.inl e)))
    · rcases hget i ci hi with hi | ⟨-, rfl⟩
      · exact .inl (.inr (.inr (.inr ⟨i, ci, hi, e⟩)))
      · exact .inr (.inl e)
  have hgr : Grow (RNF g s vc cs) (RNF g s v' (cs ++ [c])) wr.heap.size := fun j hj => by
    rcases hF j hj with e | e | e
    · exact .inl e
    · exact .inr (hc j e)
    · exact .inr (by omega)
  have hG : ∀ j, (j = g ∨ vc.ownBlock = some j) → RNF g s vc cs j := fun j hj => hj.elim .inl (fun e => .inr (.inl e))
  have hcv := hcl (fun j => RNF g s vc cs j ∨ c.F j) (fun _ e => .inr e) (fun j hj => hj.elim (fun e => .inr (hlt j e)) .inl)
  have hfl : ∀ j, RNF g s v' (cs ++ [c]) j → j < (w3.setCell ⟨g, 1, none⟩ v').heap.size := fun j hj => by
    have hz : w3.heap.size ≤ (w3.setCell ⟨g, 1, none⟩ v').heap.size := z4
    rcases hF j hj with e | e | ⟨e, -⟩
    · have := hlt j e; omega
    · have := hcv.lt j e; omega
    · have := (h3.lt j e).2; omega
  have hcG : ∀ j, c.F j → ¬ (j = g ∨ vc.ownBlock = some j) := fun j hj e => by
    have := hlt j (hG j e)
    have := hc j hj
    omega
  have hng : v'.ownBlock ≠ some g := fun e => by
    rcases hn g e with e | e
    · exact h.g_ty e
    · have := h.blk.lt; omega
  have hcf : ∀ (i : Nat) (ci : CP), cs[i]? = some ci → ci.a ≠ c.a ∧ ci.f ≠ c.f := fun i ci hi => by
    obtain ⟨u', -, hC⟩ := h.cli i ci hi
    have a1 := hC.lt ci.a (.inl rfl)
    have a2 := hC.lt ci.f (.inr rfl)
    have b1 := hc c.a (.inl rfl)
    have b2 := hc c.f (.inr rfl)
    exact ⟨by omega, by omega⟩
  refine ⟨⟨?_, ?_, ?_, ?_, ?_⟩, ?_, ?_, ?_, ?_, ?_, ?_⟩
  · exact hOr.os.trans h.bel.os
  · exact hOr.tape.trans h.bel.tape
  · exact hOr.output.trans h.bel.output
  · exact Nat.le_trans z0 hOr.size
  · intro k hk
    exact (hOr.block k (by omega) (fun e => by have := h.new k (hG k e); omega)).trans (h.bel.block k hk)
  · exact (((h.blk.below h1 h.blk.lt).below h2 (Nat.lt_of_lt_of_le h.blk.lt z1)).only hO2 (fun e => h.g_ty e.symm)).set_ 1 v'
  · exact h.srv.only hOr hG (fun j hj e => e.elim (h.s_ty hj).1 (h.s_ty hj).2) hgr (fun j hj => .inr (.inr (.inl hj))) hfl
  · intro i ci hi
    rcases hget i ci hi with hi | ⟨rfl, rfl⟩
    · obtain ⟨u', hu', hC⟩ := h.cli i ci hi
      exact ⟨u', hu', hC.only hOr hG (fun j hj e => e.elim (h.c_ty hi hj).1 (h.c_ty hi hj).2) hgr (fun j hj => .inr (.inr (.inr ⟨i, ci, hin i ci hi, hj⟩))) hfl⟩
    · exact ⟨u, hu, hcv.only hO1 (fun j e => .inl (hG j e)) hcG (fun j hj => by
        rcases hF j hj with e | e | e
        · exact .inl (.inl e)
        · exact .inl (.inr e)
        · exact .inr (by omega)) (fun j hj => .inr (.inr (.inr ⟨_, _, hlast, hj⟩))) hfl⟩
  · rw [List.length_append]
    have e : ptrs (cs ++ [c]) = ptrs cs ++ [.pointer (some ⟨c.a, 0, none⟩)] := by unfold ptrs; simp
    rw [e]
    exact own_only h3 hO3 (fun k hk e => hng (by rw [hk, e]))
  · intro i j ci cj hij hi hj
    rcases hget i ci hi with hi' | ⟨rfl, rfl⟩ <;> rcases hget j cj hj with hj' | ⟨rfl, rfl⟩
    · exact h.ap i j ci cj hij hi' hj'
    · exact hcf i ci hi'
    · obtain ⟨b1, b2⟩ := hcf j cj hj'
      exact ⟨fun e => b1 e.symm, fun e => b2 e.symm⟩
    · exact absurd rfl hij
  · intro j hj
    rcases hF j hj with e | e | e
    · exact h.new j e
    · have := hc j e; omega
    · omega
/-- All clients are there. -/
theorem RNI.done (h : RNI w wr g s vc cs us R) (hl : cs.length = us.length) (hd : Hdl w) : ∃ r : RP, r.a = g ∧ (∀ j, r.F j → w.heap.size ≤ j) ∧ RmR wr r.F r (RM.new R us) := by
  obtain ⟨r, hr⟩ : ∃ r : RP, r = ⟨g, s, vc, cs, .slice none 0 0, []⟩ := ⟨_, rfl⟩
  have hF : ∀ j, r.F j → RNF g s vc cs j := by
    rw [hr]
    rintro j (e | e | ⟨i, c, hi, e⟩ | e)
    · exact .inl e
    · exact .inr (.inr (.inl e))
    · exact .inr (.inr (.inr ⟨i, c, hi, e⟩))
    · cases e
  have hgr : Grow (RNF g s vc cs) r.F wr.heap.size := fun j hj => .inl (hF j hj)
  have hfl : ∀ j, r.F j → j < wr.heap.size := fun j hj => h.srv.flt j (hF j hj)
  have hnf : ∀ j, vc.ownBlock = some j → ¬ r.F j := fun j hv hj => by
    rw [hr] at hj
    rcases hj with e | e | ⟨i, c, hi, e⟩ | e
    · exact h.g_ty (by rw [hv, e])
    · exact (h.s_ty e).2 hv
    · exact (h.c_ty hi e).2 hv
    · cases e
  have hO : Only (fun _ => False) wr wr := Only.refl _ _
  have hdl : HdlO r.F wr := ⟨hd.below h.bel, fun e => by have := h.new _ (hF _ e); have := hd.lt; omega⟩
  have hsv : SrvR wr r.F s (SV.new (U.encs R)) := h.srv.only hO (fun _ e => e.elim) (fun _ _ e => e) hgr (fun j hj => by rw [hr]; exact .inr (.inl hj)) hfl
  refine ⟨r, by rw [hr], fun j hj => h.new j (hF j hj), ?_⟩
  subst hr
  refine ⟨hdl, h.blk, hsv, ?_, fun k c C hc hC => ?_, Sl.of_own h.own, fun ad n c' e hn => ?_, World.ownsRow_nil _ _ _ _, rfl, (fun x hx => by cases hx), h.ap, fun _ e => e, hfl⟩
  · show cs.length = (us.zipIdx.map _).length
    rw [List.length_map, List.length_zipIdx, hl]
  · obtain ⟨u, hu, hC'⟩ := h.cli k c hc
    obtain ⟨u', hu', rfl⟩ := RM.new_cl hC
    obtain rfl := getElem?_uniq hu hu'
    exact hC'.only hO (fun _ e => e.elim) (fun _ _ e => e) hgr (fun j hj => .inr (.inr (.inl ⟨k, c, hc, hj⟩))) hfl
  · have e : vc = .slice (some ad) n c' := e
    exact hnf _ (by rw [e]; rfl)
end
theorem RNI.start {w w1 : World} {s : SP} {us R : List Int} (h1 : Below w.heap.size w w1) (hF : ∀ j, s.F j → w.heap.size ≤ j) (hs : SrvR w1 s.F s (SV.new (U.encs R))) :
    RNI w (w1.alloc (.cells #[.pointer (some ⟨s.a, 0, none⟩), .slice none 0 0, .slice none 0 0, .int .i64 0] 132)) w1.heap.size s (.slice none 0 0) [] us R := by
  have z1 := h1.size
  have hb : Below w1.heap.size w1 (w1.alloc (.cells #[.pointer (some ⟨s.a, 0, none⟩), .slice none 0 0, .slice none 0 0, .int .i64 0] 132)) := ex_alloc (Below.refl _ _) _
  have hN : ∀ j, RNF w1.heap.size s (.slice none 0 0) [] j → j = w1.heap.size ∨ s.F j := by
    rintro j (e | e | e | ⟨i, c, hi, -⟩)
    · exact .inl e
    · cases e
    · exact .inr e
    · cases hi
  refine ⟨ex_alloc h1 _, Blk.new w1 _ _, hs.only (G := fun _ => False) (Only.of_below hb) (fun _ e => e.elim) (fun _ _ e => e) (fun j hj => (hN j hj).elim (fun e => .inr (by omega)) .inl) (fun j hj => .inr (.inr (.inl hj))) (fun j hj => ?_), (fun i c hi => by cases hi), World.ownsRow_nil _ _ _ _, (fun i j c c' _ hi => by cases hi), fun j hj => (hN j hj).elim (fun e => by omega) (hF j)⟩
  rw [World.size_alloc]
  rcases hN j hj with e | e
  · omega
  · have := hs.flt j e; omega
theorem ptr_one (c : CP) : ∀ u ∈ ([.pointer (some ⟨c.a, 0, none⟩)] : List Value), u.oneCell' = true := by
  intro u hu
  obtain rfl := List.mem_singleton.1 hu
  rfl
/-- What New hands back. -/
def RNewPost (rs : List Int) (rest : U.Bs) (us : List Int) (w : World) (e : Ending) (w' : World) : Prop :=
  Below w.heap.size w w' ∧ (rest ≠ [] → ∃ g, e = .returned (.tuple #[.pointer none, atV g]) ∧ AtBlk w' g 3 (bl rs)) ∧
    (rest = [] → 2000 < bl rs → e = .returned (.tuple #[.pointer none, errno 12])) ∧
    (rest = [] → bl rs ≤ 2000 → 6 < us.length → e = .returned (.tuple #[.pointer none, errno 4])) ∧
    (rest = [] → bl rs ≤ 2000 → us.length ≤ 6 → (∃ u ∈ us, ¬ (1 ≤ u ∧ u ≤ 3)) → e = .returned (.tuple #[.pointer none, errno 1])) ∧
    (rest = [] → bl rs ≤ 2000 → us.length ≤ 6 → (∀ u ∈ us, 1 ≤ u ∧ u ≤ 3) → ∃ r : RP, e = .returned (.tuple #[.pointer (some ⟨r.a, 0, none⟩), .nilIface]) ∧ (∀ j, r.F j → w.heap.size ≤ j) ∧ RmR w' r.F r (RM.new rs us))
set_option maxHeartbeats 8000000 in
theorem rnew_calls {s : U.Bs} {rs : List Int} {rest : U.Bs} {us : List Int} {vu : Value} {n : Nat} {w : World} (hsp : U.Sp s rs rest) (hs : s.length ≤ 1000000) (hd : Hdl w) (hus : Sl w 1 vu n (us.map fun u => .int .i64 u)) :
    Calls Tryz.prog 23 #[.string ⟨s.toArray⟩, vu] w (RNewPost rs rest us w) := by
  have hn : us.length = n := by have := hus.len; rw [List.length_map] at this; omega
  have HSN := Hd.mk (snew_calls hsp hs w)
  have HALL := Hd.mk hsp.all
  have HSPE := Hd.mk hsp.eq
  have HD := Hd.mk hd
  have HUS := Hd.mk hus
  have HNL := Hd.mk hn
  obtain ⟨A, cu, rfl, -⟩ := hus
  by_cases hr : rest = []
  · by_cases hbl : 2000 < bl rs
    · have HR := Hd.mk (And.intro hr hbl)
      clear hsp hd hn hr hbl hs
      go_enter Tryz.func23, Tryz.ntmps23
      go_wp2_with (go_at_call 7; refine HSN.out.mono ?_; rintro e w1 ⟨hb1, -, h1, -⟩; obtain rfl := h1 HR.out.1 HR.out.2; unfold errno; have HB1 := Hd.mk hb1; clear hb1 h1)
      go_ret2
      exact ⟨HB1.out, fun e => absurd HR.out.1 e, fun _ _ => rfl, fun _ h => absurd HR.out.2 (by omega), fun _ h => absurd HR.out.2 (by omega), fun _ h => absurd HR.out.2 (by omega)⟩
    · have hbl' : bl rs ≤ 2000 := by omega
      have HR := Hd.mk (And.intro hr hbl')
      by_cases h6 : 6 < n
      · have H6 := Hd.mk h6
        have hi6 : (6 : Int) < (n : Int) := by omega
        clear hsp hd hn hr hbl hs hbl' h6
        go_enter Tryz.func23, Tryz.ntmps23
        go_wp2_with (go_at_call 7; refine HSN.out.mono ?_; rintro e w1 ⟨hb1, -, -, h1⟩; obtain ⟨s1, rfl, hs1, hs2, hs3⟩ := h1 HR.out.1 HR.out.2; have HB1 := Hd.mk hb1; clear hb1 h1 hs1 hs2 hs3)
        go_ret2
        exact ⟨HB1.out, fun e => absurd HR.out.1 e, fun _ h => absurd HR.out.2 (by omega), fun _ _ _ => rfl, fun _ _ h => absurd H6.out (by rw [HNL.out] at h; omega), fun _ _ h => absurd H6.out (by rw [HNL.out] at h; omega)⟩
      · have hi6 : ¬ (6 : Int) < (n : Int) := by omega
        have hn6 : n ≤ 6 := by omega
        obtain rfl : s = U.encs rs := by have := hsp.eq; rw [hr] at this; simpa using this
        clear hsp hd hn hr hbl hs hbl' h6
        go_enter Tryz.func23, Tryz.ntmps23
        go_wp2_with (go_at_call 7; refine HSN.out.mono ?_; rintro e w1 ⟨hb1, -, -, h1⟩; obtain ⟨s1, rfl, hs1, hs2, hs3⟩ := h1 HR.out.1 HR.out.2; have HB1 := Hd.mk hb1; have HS1 := Hd.mk (And.intro hs1 (And.intro hs2 hs3)); clear hb1 h1 hs1 hs2 hs3)
        have HST := Hd.mk (RNI.start (us := us) HB1.out HS1.out.1 HS1.out.2.2)
        have hne : us.length = n := HNL.out
        go_loopw [30] (fun i wr => ∃ (k : Nat) (vc : Value) (cs : List CP), k ≤ n ∧ i = .int .i64 k ∧ cs.length = k ∧ RNI w wr w1.heap.size s1 vc cs us rs ∧ (∀ j, j < k → ∀ u, us[j]? = some u → 1 ≤ u ∧ u ≤ 3)) (fun i _ => n - (intOf i).toNat)
        case atStart => exact ⟨0, _, _, by omega, rfl, rfl, HST.out, fun j hj => by omega⟩
        case round =>
          obtain ⟨k, vc, cs, hk, rfl, hcl, hI, hall⟩ := hrel
          have HI := Hd.mk (And.intro hcl hI)
          have HAL := Hd.mk hall
          have hkb : k ≤ 6 := by omega
          obtain ⟨z0, z1, z2, z3⟩ := four_cells hI.blk
          obtain ⟨Av, cv, hvc⟩ := own_form hI.own
          rw [hvc, hcl] at z1
          have fz := hI.blk.frozen
          have lt := hI.blk.lt
          have HVC := Hd.mk hvc
          clear hcl hI hall HST hvc hne
          by_cases hkn : k < n
          · obtain ⟨u, hu⟩ : ∃ u, us[k]? = some u := ⟨_, List.getElem?_eq_getElem (by rw [HNL.out]; exact hkn)⟩
            obtain ⟨b, o, cc, hv, hbb, c0⟩ := (HUS.out.below HI.out.2.bel).one_at hkn (u := .int .i64 u) (by rw [List.getElem?_map, hu]; rfl)
            cases hv
            have HCN := Hd.mk (cnew_calls HALL.out HR.out.2 (k : Int) u wr)
            have HU := Hd.mk hu
            clear hu
            by_cases hg : 1 ≤ u ∧ u ≤ 3
            · have HG := Hd.mk hg
              clear hg
              go_wp2_with (first
                | (go_at_call 62; refine HCN.out.mono ?_; rintro e w2 ⟨hb2, -, h2⟩; obtain ⟨c, rfl, hc1, hc2⟩ := h2 HG.out; have HB2 := Hd.mk hb2; have HC2 := Hd.mk (And.intro hc1 hc2); obtain ⟨y0, y1, y2, y3⟩ := four_cells (HI.out.2.blk.below hb2 lt); have yf := (HI.out.2.blk.below hb2 lt).frozen; have yl := (HI.out.2.blk.below hb2 lt).lt; rw [HVC.out, HI.out.1] at y1; have how2 := own_only HI.out.2.own (Only.of_below (S := fun _ => False) hb2) (fun _ _ e => e); rw [HVC.out, HI.out.1] at how2; have HOW2 := Hd.mk how2; clear hb2 h2 hc1 hc2 how2)
                | (at_builtin; refine append_lit' el_cptr #[.pointer (some ⟨c.a, 0, none⟩)] HOW2.out rfl rfl rfl rfl (by simp) rfl (ptr_one c) (by unfold maxLen; omega) (by omega) (by have := HI.out.2.bel.size; have := HB2.out.size; omega) ?_; intro v3 w3 hown3 hbel3 hgr3 hnew3; have HO3 := Hd.mk hown3; obtain ⟨A3, k3, rfl⟩ := own_form hown3; have hbk3 := (HI.out.2.blk.below HB2.out lt).only (Only.of_grown hgr3) (fun e => HI.out.2.g_ty (by rw [HVC.out, HI.out.1]; exact e.symm)); have HGR3 := Hd.mk hgr3; have HNW3 := Hd.mk hnew3; obtain ⟨x0, x1, x2, x3⟩ := four_cells hbk3; have xf := hbk3.frozen; have xl := hbk3.lt; rw [HVC.out, HI.out.1] at x1; clear hown3 hbel3 hgr3 hnew3 hbk3))
              refine ⟨⟨k + 1, .slice A3 (k + 1) k3, cs ++ [c], by omega, by go_num, by simp [HI.out.1], ?_, ?_⟩, by simp only [intOf]; omega⟩
              · have hvq : vc = .slice Av k cv := by rw [HVC.out, HI.out.1]
                have g1 := HGR3.out
                have g2 := HNW3.out
                rw [← hvq] at g1 g2
                have hk := HI.out.1
                subst hk
                exact HI.out.2.more HU.out HB2.out HC2.out.1 HC2.out.2 (Below.refl _ _) HO3.out g1 g2
              · intro j hj u' hu'
                by_cases hjk : j < k
                · exact HAL.out j hjk u' hu'
                · obtain rfl : j = k := by omega
                  obtain rfl := getElem?_uniq HU.out hu'
                  exact HG.out
            · have HG := Hd.mk hg
              clear hg
              go_wp2_with (go_at_call 62; refine HCN.out.mono ?_; rintro e w2 ⟨hb2, h2, -⟩; obtain rfl := h2 HG.out; unfold errno; have HB2 := Hd.mk hb2; clear hb2 h2)
              go_ret2
              refine ⟨bstep HI.out.2.bel HB2.out, fun e => absurd HR.out.1 e, fun _ h => absurd HR.out.2 (by omega), fun _ _ h => absurd h (by rw [HNL.out]; omega), fun _ _ _ _ => rfl, fun _ _ _ h => absurd (h u (List.mem_of_getElem? HU.out)) HG.out⟩
          · obtain rfl : k = n := by omega
            clear z1 z2 z3
            go_wp2_with fail
            go_ret2
            obtain ⟨r, hr1, hr2, hr3⟩ := HI.out.2.done (by rw [HI.out.1, HNL.out]) HD.out
            refine ⟨HI.out.2.bel, fun e => absurd HR.out.1 e, fun _ h => absurd HR.out.2 (by omega), fun _ _ h => absurd h (by rw [HNL.out]; omega), fun _ _ _ ⟨u, hu, hg⟩ => ?_, fun _ _ _ _ => ⟨r, by rw [hr1]; rfl, hr2, hr3⟩⟩
            obtain ⟨j, hj⟩ := List.mem_iff_getElem?.1 hu
            exact absurd (HAL.out j (by have := (List.getElem?_eq_some_iff.1 hj).1; rw [HNL.out] at this; exact this) u hj) hg
  · have HR := Hd.mk hr
    clear hsp hd hn hr hs
    go_enter Tryz.func23, Tryz.ntmps23
    go_wp2_with (go_at_call 7; refine HSN.out.mono ?_; rintro e w1 ⟨hb1, h1, -⟩; obtain ⟨g, rfl, hg⟩ := h1 HR.out; unfold atV; have HB1 := Hd.mk hb1; have HG := Hd.mk hg; clear hb1 h1 hg)
    go_ret2
    exact ⟨HB1.out, fun _ => ⟨g, rfl, HG.out⟩, fun e => absurd e HR.out, fun e => absurd e HR.out, fun e => absurd e HR.out, fun e => absurd e HR.out⟩
end Go.Proofs.YtdgdajnbkfmijaaGreatDoor
/- keep.met. -/
namespace Go.Proofs.YtdgdajnbkfmijaaGreatDoor
open Go.RowKit Go.Sort
set_option maxRecDepth 100000
section
variable {F : Nat → Prop} {w w1 w2 : World} {r r1 : RP} {R R' : RM} {N B : Int}
/-- A client, by where it lies. -/
theorem RmR.getA (h : RmR w F r R) {L : List Nat} (hm : r.cs.map CP.a = L) {k a : Nat} {C : CV} (ha : L[k]? = some a) (hC : R.cl[k]? = some C) : ∃ c, r.cs[k]? = some c ∧ c.a = a ∧ CliR w F c C := by
  obtain ⟨c, hc, hcr⟩ := h.get hC
  have : (r.cs.map CP.a)[k]? = some c.a := by rw [List.getElem?_map, hc]; rfl
  rw [hm, ha] at this
  exact ⟨c, hc, (Option.some.inj this).symm, hcr⟩
/-- A client's Edit, in a room. -/
theorem rmedit_calls {k : Nat} {C : CV} {c : CP} {l : List PT} {v : Value} (h : RmR w F r R) (hb : RMb N B R) (hN : N ≤ 1000000) (hC : R.cl[k]? = some C) (hc : r.cs[k]? = some c) (hx : OpO F w v l) (hn : l.length ≤ 100000) :
    Calls Tryz.prog 35 #[.pointer (some ⟨c.a, 0, none⟩), v] w fun e w' => e = .returned (errOf (C.edit l).1) ∧ RmS F r (R.edit k l) w w' := by
  refine (cedit_calls (h.cli k c C hc hC) h.hd (hb.ok.cl k C hC).ok hN hx hn).mono ?_
  intro e w' hp
  have e2 : R.edit k l = R.setc k (C.edit l).2 := by unfold RM.edit; rw [hC]
  rw [e2]
  exact h.client hc hC hp
theorem RmS.below (h : RmS F r R' w1 w2) {w0 : World} {n : Nat} (hb : Below n w0 w1) (hn : n ≤ w1.heap.size) (hF : ∀ j, r.F j → n ≤ j) : Below n w0 w2 := by
  obtain ⟨r', -, -, ho, -⟩ := h
  refine ⟨ho.os.trans hb.os, ho.tape.trans hb.tape, ho.output.trans hb.output, Nat.le_trans hb.size ho.size, fun k hk => (ho.block k (by omega) (fun e => by have := hF k e; omega)).trans (hb.block k hk)⟩
end
theorem mtR_cl : mtR.cl.length = 2 := by rw [mtR_eq]; rfl
theorem mt_b0 : RMb 0 0 (RM.new [45] [1, 2]) := by
  obtain ⟨h1, h2⟩ := RMok.new (R := [45]) (us := [1, 2]) mt_all (by decide) (by decide)
  exact ⟨h1, h2, Int.le_refl _, Int.le_refl _⟩
theorem mt_x1 : ((CV.new 0 1 [45]).edit mtX).1 = 0 := by rw [mt_e0.1]
theorem mt_y1 : ((CV.new 1 2 [45]).edit mtY).1 = 0 := by rw [mt_e1.1]
theorem mt_sl {w : World} {t : TypeId} {H : Nat} {cs : Array Value} {l : List PT} (hH : w.heap.size = H) (hl : cs.size = 2 * 3) (h2 : l.length = 2) (he : cs.toList = opv l) : Sl (w.alloc (.cells cs t)) 3 (.slice (some ⟨H, 0, none⟩) 2 2) l.length (opv l) := by
  rw [h2, ← he]
  exact sl_lit_at hH hl (by unfold maxLen; omega)
theorem mt_b2 : RMb 2 0 mtR := (mt_b0.edit 0 mtX).edit 1 mtY
theorem mt_b3 : RMb 2 10000 mtR.quiet := mt_b2.quiet.mono (by decide) (by rw [mtR_cl]; decide)
theorem mt_l3 : mtR.quiet.cl.length = 2 := mt_b2.ok.quiet.2.2.1.trans mtR_cl
theorem mt_l4 : mtR.quiet.quiet.cl.length = 2 := mt_b3.ok.quiet.2.2.1.trans mt_l3
/-- A room that lies apart of what there was. -/
structure MtI (w wr : World) (F : Nat → Prop) (r : RP) (ra : Nat) (L : List Nat) (R : RM) : Prop where
  rm : RmR wr F r R
  a : r.a = ra
  cs : r.cs.map CP.a = L
  bel : Below w.heap.size w wr
  new : ∀ j, r.F j → w.heap.size ≤ j
theorem MtI.step {w wr w' : World} {F : Nat → Prop} {r : RP} {ra : Nat} {L : List Nat} {R R' : RM} (h : MtI w wr F r ra L R) (hs : RmS F r R' wr w') : ∃ r' F', MtI w w' F' r' ra L R' := by
  obtain ⟨r1, F1, a1, a2, a3, -, -, -, a4, -⟩ := RmS.next' h.rm hs
  have hz := h.bel.size
  exact ⟨r1, F1, a3, a1.1.trans h.a, a2.trans h.cs, hs.below h.bel hz h.new, fun j hj => (a4 j hj).elim (h.new j) (fun e => by omega)⟩
theorem MtI.below {w wr w' : World} {F : Nat → Prop} {r : RP} {ra : Nat} {L : List Nat} {R : RM} (h : MtI w wr F r ra L R) (hb : Below wr.heap.size wr w') : MtI w w' F r ra L R :=
  ⟨h.rm.below hb, h.a, h.cs, bstep h.bel hb, h.new⟩
theorem MtI.ctext {w wr : World} {F : Nat → Prop} {r : RP} {ra : Nat} {L : List Nat} {R : RM} (h : MtI w wr F r ra L R) {k a : Nat} {C : CV} (ha : L[k]? = some a) (hC : R.cl[k]? = some C) : Calls Tryz.prog 31 #[.pointer (some ⟨a, 0, none⟩)] wr fun e w' => e = .returned (.string ⟨(U.encs C.doc).toArray⟩) ∧ Below wr.heap.size wr w' := by
  obtain ⟨c, -, rfl, hc⟩ := h.rm.getA h.cs ha hC
  exact ctext_calls hc
set_option maxHeartbeats 8000000 in
theorem keepmet_calls {w : World} (hd : Hdl w) : Calls Tryz.prog 20 #[] w fun e w' => e = .returned (.bool true) ∧ Below w.heap.size w w' := by
  have HNW := Hd.mk (rnew_calls (s := [45]) (rs := [45]) (rest := []) (us := [1, 2]) (vu := .slice (some ⟨w.heap.size, 0, none⟩) 2 2) (n := 2) (w := w.alloc (.cells #[.int .i64 1, .int .i64 2] 3)) (U.sp_encs mt_all) (by decide) (hd.below (ex_alloc (Below.refl _ _) _)) (sl_lit_at rfl rfl (by unfold maxLen; omega)))
  have HDL := Hd.mk hd
  clear hd
  go_enter Tryz.func20, Tryz.ntmps20
  go_wp2_with (go_at_call 23; refine HNW.out.mono ?_; rintro e w1 ⟨hb1, -, -, -, -, h1⟩; obtain ⟨r, rfl, hrF, hR⟩ := h1 rfl (by decide) (by decide) (by decide); have HB1 := Hd.mk ((ex_alloc (Below.refl w.heap.size w) (.cells #[.int .i64 1, .int .i64 2] 3)).trans (hb1.mono (by simp))); have HR := Hd.mk (And.intro (fun j (hj : r.F j) => (Nat.le_trans (by simp) (hrF j hj) : w.heap.size ≤ j)) hR); clear hb1 h1 hrF hR)
  obtain ⟨c0, hc0, hcr0⟩ := HR.out.2.get (k := 0) (C := CV.new 0 1 [45]) rfl
  obtain ⟨c1, hc1, hcr1⟩ := HR.out.2.get (k := 1) (C := CV.new 1 2 [45]) rfl
  have HK0 : Hd (Calls Tryz.prog 27 #[.pointer (some ⟨r.a, 0, none⟩), .int .i64 0] w1 fun e w' => e = .returned (.tuple #[.pointer (some ⟨c0.a, 0, none⟩), .nilIface]) ∧ w' = w1) := ⟨rmclient_calls HR.out.2 hc0⟩
  have HK1 : Hd (Calls Tryz.prog 27 #[.pointer (some ⟨r.a, 0, none⟩), .int .i64 1] w1 fun e w' => e = .returned (.tuple #[.pointer (some ⟨c1.a, 0, none⟩), .nilIface]) ∧ w' = w1) := ⟨rmclient_calls HR.out.2 hc1⟩
  have HCS : Hd (r.cs.map CP.a = [c0.a, c1.a]) := ⟨by
    have hl := HR.out.2.len
    have h2 : r.cs.length = 2 := hl
    match hcs : r.cs, h2 with
    | [x, y], _ =>
      rw [hcs] at hc0 hc1
      cases hc0
      cases hc1
      rfl⟩
  have hEX := fun cs (hq : cs = #[Value.int .i64 0, .int .i64 0, .string ⟨#[120]⟩, .int .i64 1, .int .i64 0, .string ⟨#[]⟩]) => rmedit_calls (w := w1.alloc (.cells cs 113)) (v := .slice (some ⟨w1.heap.size, 0, none⟩) 2 2) (l := mtX) (HR.out.2.below (ex_alloc (Below.refl _ _) _)) mt_b0 (by decide) (C := CV.new 0 1 [45]) rfl hc0 (OpO.frs (mt_sl rfl (by rw [hq]; rfl) rfl (by rw [hq]; rfl)) (fun ad n c e => by cases e; exact Nat.le_refl _) HR.out.2.flt) (by decide)
  rw [mt_x1, errOf_zero] at hEX
  have HEX := Hd.mk (hEX _ rfl)
  clear hc0 hc1 hcr0 hcr1 hEX
  go_wp2_with (first
    | (go_at_call_of 27 (Value.int .i64 0); refine HK0.out.mono ?_; rintro e w2 ⟨rfl, rfl⟩)
    | (go_at_call_of 27 (Value.int .i64 1); refine HK1.out.mono ?_; rintro e w2 ⟨rfl, rfl⟩)
    | (go_at_call_of 35 c0.a; refine HEX.out.mono ?_; rintro e w4 ⟨rfl, h4⟩; have H4 := Hd.mk h4; clear h4))
  obtain ⟨r4, F4, ha4, hcs4, hR4, -, -, -, hgF4, hnx4⟩ := RmS.next' (HR.out.2.below (ex_alloc (Below.refl _ _) _)) H4.out
  have hB4 : Below w.heap.size w w4 := H4.out.below (ex_alloc HB1.out _) (by have := HB1.out.size; simp; omega) HR.out.1
  have hF4 : ∀ j, r4.F j → w.heap.size ≤ j := fun j hj => (hgF4 j hj).elim (HR.out.1 j) (fun e => by have := HB1.out.size; simp at e; omega)
  obtain ⟨c2, hc2, hca2, hcr2⟩ := hR4.getA (hcs4.trans HCS.out) (k := 1) (a := c1.a) (C := CV.new 1 2 [45]) rfl rfl
  have hEY := fun cs (hq : cs = #[Value.int .i64 1, .int .i64 0, .string ⟨#[]⟩, .int .i64 0, .int .i64 0, .string ⟨#[121]⟩]) => rmedit_calls (w := w4.alloc (.cells cs 113)) (v := .slice (some ⟨w4.heap.size, 0, none⟩) 2 2) (l := mtY) (hR4.below (ex_alloc (Below.refl _ _) _)) (mt_b0.edit 0 mtX) (by decide) (C := CV.new 1 2 [45]) rfl hc2 (OpO.frs (mt_sl rfl (by rw [hq]; rfl) rfl (by rw [hq]; rfl)) (fun ad n c e => by cases e; exact Nat.le_refl _) hR4.flt) (by decide)
  rw [mt_y1, errOf_zero, hca2] at hEY
  have HEY := Hd.mk (hEY _ rfl)
  have HR4 := Hd.mk (And.intro hR4 (And.intro ha4 (And.intro hcs4 (And.intro hB4 hF4))))
  clear hEY hc2 hca2 hcr2 ha4 hcs4 hR4 hgF4 hnx4 hB4 hF4
  go_wp2_with (first
    | (go_at_call_of 35 c1.a; refine HEY.out.mono ?_; rintro e w5 ⟨rfl, h5⟩; have H5 := Hd.mk h5; clear h5))
  obtain ⟨r5, F5, ha5, hcs5, hR5, -, -, -, hgF5, -⟩ := RmS.next' (HR4.out.1.below (ex_alloc (Below.refl _ _) _)) H5.out
  have hB5 : Below w.heap.size w w5 := H5.out.below (ex_alloc HR4.out.2.2.2.1 _) (by have := HR4.out.2.2.2.1.size; simp; omega) HR4.out.2.2.2.2
  have hF5 : ∀ j, r5.F j → w.heap.size ≤ j := fun j hj => (hgF5 j hj).elim (HR4.out.2.2.2.2 j) (fun e => by have := HR4.out.2.2.2.1.size; simp at e; omega)
  have hR5 : RmR w5 F5 r5 mtR := hR5
  have hq5 := rmquiet_calls hR5 mt_b2 (by decide) (by decide) (by show mtR.cl.length ≤ 1000; rw [mtR_cl]; decide)
  rw [ha5.1, HR4.out.2.1.1] at hq5
  have HQ5 := Hd.mk hq5
  have HR5 := Hd.mk (And.intro hR5 (And.intro (ha5.1.trans HR4.out.2.1.1) (And.intro (hcs5.trans (HR4.out.2.2.1.trans HCS.out)) (And.intro hB5 hF5))))
  clear hq5 ha5 hcs5 hR5 hgF5 hB5 hF5
  go_wp2_with (first
    | (go_at_call 32; refine HQ5.out.mono ?_; rintro e w6 ⟨rfl, h6⟩; have H6 := Hd.mk h6; clear h6 HQ5))
  have hI5 : MtI w w5 F5 r5 r.a [c0.a, c1.a] mtR := ⟨HR5.out.1, HR5.out.2.1, HR5.out.2.2.1, HR5.out.2.2.2.1, HR5.out.2.2.2.2⟩
  obtain ⟨r6, F6, hI6⟩ := hI5.step H6.out
  have hq6 := rmquiet_calls hI6.rm mt_b3 (by decide) (by decide) (by rw [mt_l3]; decide)
  rw [hI6.a] at hq6
  have HQ6 := Hd.mk hq6
  have HI6 := Hd.mk hI6
  clear hq6 hI6 hI5 HR4 HEX HEY HK0 HK1 HR
  go_wp2_with (first
    | (go_at_call 32; refine HQ6.out.mono ?_; rintro e w7 ⟨rfl, h7⟩; have H7 := Hd.mk h7; clear h7 HQ6))
  obtain ⟨r7, F7, hI7⟩ := HI6.out.step H7.out
  have ht := rmtext_calls hI7.rm
  rw [hI7.a, mt_met.2] at ht
  have HT := Hd.mk ht
  have HI7 := Hd.mk hI7
  obtain ⟨C0, hC0⟩ : ∃ C, mtR.quiet.quiet.cl[0]? = some C := ⟨_, List.getElem?_eq_getElem (by rw [mt_l4]; decide)⟩
  obtain ⟨C1, hC1⟩ : ∃ C, mtR.quiet.quiet.cl[1]? = some C := ⟨_, List.getElem?_eq_getElem (by rw [mt_l4]; decide)⟩
  have hd0 := (mt_met.1.2 0 C0 hC0).2.2.2.trans mt_met.2
  have hd1 := (mt_met.1.2 1 C1 hC1).2.2.2.trans mt_met.2
  have HC0 := Hd.mk hC0
  have HC1 := Hd.mk hC1
  have HD := Hd.mk (And.intro hd0 hd1)
  clear ht hI7 hC0 hC1 hd0 hd1
  clear HCS HI6 HR5 H4 H5 H6 H7 HNW
  go_wp2_with (first
    | (go_at_call 26; refine HT.out.mono ?_; rintro e w8 ⟨rfl, hb8⟩; have H8 := Hd.mk (HI7.out.below hb8); clear hb8)
    | (go_at_call_of 31 c0.a; have hx := H8.out.ctext (k := 0) rfl HC0.out; rw [HD.out.1] at hx; refine hx.mono ?_; clear hx; rintro e w9 ⟨rfl, hb9⟩; have H9 := Hd.mk (H8.out.below hb9); clear hb9)
    | (go_at_call_of 31 c1.a; have hx := H9.out.ctext (k := 1) rfl HC1.out; rw [HD.out.2] at hx; refine hx.mono ?_; clear hx; rintro e w10 ⟨rfl, hb10⟩; have H10 := Hd.mk (H9.out.below hb10); clear hb10))
  go_ret
  exact ⟨rfl, H10.out.bel⟩
end Go.Proofs.YtdgdajnbkfmijaaGreatDoor
/- keep.plays: what an act does to a room. -/
namespace Go.Proofs.YtdgdajnbkfmijaaGreatDoor
open Go.RowKit Go.Sort
set_option maxRecDepth 100000
section
attribute [local go_sem] add_mk
variable {F : Nat → Prop} {w : World} {r : RP} {R : RM} {N B : Int}
theorem rmdeliver_out (h : RmR w F r R) (hw : R.way = []) :
    Calls Tryz.prog 41 #[.pointer (some ⟨r.a, 0, none⟩), .int .i64 0] w fun e w' => e = .returned (errno 2) ∧ w' = w := by
  obtain ⟨z0, z1, z2, z3⟩ := four_cells h.blk
  obtain ⟨A, c, hv⟩ := own_form h.own
  rw [hv, h.wl, hw, List.length_nil] at z2
  clear h hv hw
  go_enter Tryz.func41, Tryz.ntmps41
  go_wp2_with fail
  go_ret
  exact ⟨rfl, rfl⟩
theorem rmlose_out (h : RmR w F r R) (hw : R.way = []) :
    Calls Tryz.prog 42 #[.pointer (some ⟨r.a, 0, none⟩), .int .i64 0] w fun e w' => e = .returned (errno 2) ∧ w' = w := by
  obtain ⟨z0, z1, z2, z3⟩ := four_cells h.blk
  obtain ⟨A, c, hv⟩ := own_form h.own
  rw [hv, h.wl, hw, List.length_nil] at z2
  clear h hv hw
  go_enter Tryz.func42, Tryz.ntmps42
  go_wp2_with fail
  go_ret
  exact ⟨rfl, rfl⟩
theorem rmtwice_out (h : RmR w F r R) (hw : R.way = []) :
    Calls Tryz.prog 44 #[.pointer (some ⟨r.a, 0, none⟩), .int .i64 0] w fun e w' => e = .returned (errno 2) ∧ w' = w := by
  obtain ⟨z0, z1, z2, z3⟩ := four_cells h.blk
  obtain ⟨A, c, hv⟩ := own_form h.own
  rw [hv, h.wl, hw, List.length_nil] at z2
  clear h hv hw
  go_enter Tryz.func44, Tryz.ntmps44
  go_wp2_with fail
  go_ret
  exact ⟨rfl, rfl⟩
/-- What is known where an act is played. -/
structure KpI (w : World) (F : Nat → Prop) (r : RP) (R : RM) (N B : Int) (n : Nat) (v : Value) (l : List PT) : Prop where
  rm : RmR w F r R
  ok : RMb N B R
  nn : N ≤ 100000
  bb : B ≤ 500000000
  cl : R.cl.length = n
  n1 : 1 ≤ n ∧ n ≤ 100
  op : OpO F w v l
theorem KpI.below {w' : World} {n : Nat} {v : Value} {l : List PT} (h : KpI w F r R N B n v l) (hb : Below w.heap.size w w') : KpI w' F r R N B n v l :=
  ⟨h.rm.below hb, h.ok, h.nn, h.bb, h.cl, h.n1, h.op.below hb (Grow.refl _ _)⟩
def KpPost (F : Nat → Prop) (r : RP) (R : RM) (q : Bool) (w : World) (e : Ending) (w' : World) : Prop := e = .returned (.bool true) ∧ ∃ R', PlayS R q R' ∧ RmS F r R' w w'
theorem KpPost.same {q : Bool} {w' : World} (h : RmR w F r R) (hb : Below w.heap.size w w') : KpPost F r R q w (.returned (.bool true)) w' := ⟨rfl, R, .same q, RmS.of_below h hb⟩
theorem KpPost.mk' {q : Bool} {R' : RM} {w0 w' : World} (h : RmR w F r R) (hp : PlayS R q R') (hb : Below w.heap.size w w0) (hs : RmS F r R' w0 w') : KpPost F r R q w (.returned (.bool true)) w' := ⟨rfl, R', hp, RmS.from_below h hb hs⟩
/-- A box of three whole numbers and a value. -/
abbrev BXA (b : Nat) (x y z v : Value) (w' : World) : Prop := Blk w' b 71 #[x, y, z, v] ∧ w'.cell? ⟨b, 0, none⟩ = some x ∧ w'.cell? ⟨b, 1, none⟩ = some y ∧ w'.cell? ⟨b, 2, none⟩ = some z ∧ w'.cell? ⟨b, 3, none⟩ = some v
theorem BXA.of {b : Nat} {x y z v : Value} {w' : World} (h : Blk w' b 71 #[x, y, z, v]) : BXA b x y z v w' := ⟨h, four_cells h⟩
set_option maxHeartbeats 8000000 in
theorem kplays_x {n : Nat} {what px py : Int} {v : Value} {l : List PT} (h : KpI w F r R N B n v l) (h0 : ¬ what = 0) (h1 : ¬ what = 1) (h2 : ¬ what = 2) (h3 : ¬ what = 3) (h4 : ¬ what = 4) (h5 : ¬ what = 5) :
    Calls Tryz.prog 24 #[.pointer (some ⟨r.a, 0, none⟩), .int .i64 (n : Int), .agg #[.int .i64 what, .int .i64 px, .int .i64 py, v]] w (KpPost F r R (decide (what = 5)) w) := by
  have HL := Hd.mk h
  obtain ⟨hn1, hn2⟩ := h.n1
  obtain ⟨A, ca, hv, -⟩ := h.op.sl
  subst hv
  have HPK := Hd.mk (fun W => pick_calls px (n : Int) (by omega) W)
  obtain ⟨W, hW⟩ : ∃ W, W = w.alloc (.cells #[.int .i64 what, .int .i64 px, .int .i64 py, .slice A l.length ca] 71) := ⟨_, rfl⟩
  have hb : Below w.heap.size w W := by rw [hW]; exact ex_alloc (Below.refl _ _) _
  have hbx : Blk W w.heap.size 71 #[.int .i64 what, .int .i64 px, .int .i64 py, .slice A l.length ca] := by rw [hW]; exact Blk.new w _ _
  have hm := rmany_calls (h.rm.below hb)
  have HB := Hd.mk (And.intro hb hbx)
  have hwl := h.ok.ok.wl
  clear h hb hbx
  have b0 : (what == (0 : Int)) = false := by rw [beq_eq_false_iff_ne]; exact h0
  have b1 : (what == (1 : Int)) = false := by rw [beq_eq_false_iff_ne]; exact h1
  have b2 : (what == (2 : Int)) = false := by rw [beq_eq_false_iff_ne]; exact h2
  have b3 : (what == (3 : Int)) = false := by rw [beq_eq_false_iff_ne]; exact h3
  have b4 : (what == (4 : Int)) = false := by rw [beq_eq_false_iff_ne]; exact h4
  have b5 : (what == (5 : Int)) = false := by rw [beq_eq_false_iff_ne]; exact h5
  clear h0 h1 h2 h3 h4 h5
  by_cases hw : R.way = []
  · have HW := Hd.mk hw
    rw [hw, List.length_nil] at hm
    rw [hW] at hm HB
    have HMN := Hd.mk hm
    clear hw hm hW hwl
    go_enter Tryz.func24, Tryz.ntmps24
    go_wp2_with (first
      | (go_at_call 22; refine (HPK.out _).mono ?_; rintro e w2 ⟨kq, rfl, hk0, hk1, rfl⟩)
      | (go_at_call 33; refine HMN.out.mono ?_; rintro e w2 ⟨rfl, rfl⟩))
    go_ret
    exact KpPost.same HL.out.rm HB.out.1
  · have hwp := List.length_pos_iff.2 hw
    rw [hW] at hm HB
    have HMN := Hd.mk hm
    have HWL := Hd.mk hwl
    have HPY := Hd.mk (fun W => pick_calls py (R.way.length : Int) (by omega) W)
    have hgt : (0 : Int) < (R.way.length : Int) := by omega
    clear hw hm hW
    go_enter Tryz.func24, Tryz.ntmps24
    go_wp2_with (first
      | (go_at_call_of 22 (Value.int .i64 px); refine (HPK.out _).mono ?_; rintro e w2 ⟨kq, rfl, hk0, hk1, rfl⟩)
      | (go_at_call 33; refine HMN.out.mono ?_; rintro e w2 ⟨rfl, rfl⟩)
      | (go_at_call_of 22 (Value.int .i64 py); refine (HPY.out _).mono ?_; rintro e w2 ⟨iq, rfl, hi0, hi1, rfl⟩))
    go_ret
    exact KpPost.same HL.out.rm HB.out.1
set_option maxHeartbeats 8000000 in
theorem kplays_5 {n : Nat} {px py : Int} {v : Value} {l : List PT} (h : KpI w F r R N B n v l) :
    Calls Tryz.prog 24 #[.pointer (some ⟨r.a, 0, none⟩), .int .i64 (n : Int), .agg #[.int .i64 (5), .int .i64 px, .int .i64 py, v]] w (KpPost F r R true w) := by
  have HL := Hd.mk h
  obtain ⟨hn1, hn2⟩ := h.n1
  obtain ⟨A, ca, hv, -⟩ := h.op.sl
  subst hv
  have HPK := Hd.mk (fun W => pick_calls px (n : Int) (by omega) W)
  obtain ⟨W, hW⟩ : ∃ W, W = w.alloc (.cells #[.int .i64 (5), .int .i64 px, .int .i64 py, .slice A l.length ca] 71) := ⟨_, rfl⟩
  have hb : Below w.heap.size w W := by rw [hW]; exact ex_alloc (Below.refl _ _) _
  have hbx : Blk W w.heap.size 71 #[.int .i64 (5), .int .i64 px, .int .i64 py, .slice A l.length ca] := by rw [hW]; exact Blk.new w _ _
  have hm := rmany_calls (h.rm.below hb)
  have HB := Hd.mk (And.intro hb hbx)
  have hwl := h.ok.ok.wl
  clear h hb hbx
  by_cases hw : R.way = []
  · have HW := Hd.mk hw
    rw [hw, List.length_nil] at hm
    rw [hW] at hm HB
    have HMN := Hd.mk hm
    clear hw hm hW hwl
    go_enter Tryz.func24, Tryz.ntmps24
    go_wp2_with (first
      | (go_at_call 22; refine (HPK.out _).mono ?_; rintro e w2 ⟨kq, rfl, hk0, hk1, rfl⟩)
      | (go_at_call 33; refine HMN.out.mono ?_; rintro e w2 ⟨rfl, rfl⟩)
      | (go_at_call 32; refine (rmquiet_calls (HL.out.rm.below HB.out.1) HL.out.ok (by have := HL.out.nn; omega) (by have := HL.out.bb; omega) (by have := HL.out.cl; omega)).mono ?_; rintro e w3 ⟨rfl, h3⟩; have H3 := Hd.mk h3; clear h3))
    go_ret
    exact KpPost.mk' HL.out.rm .quiet HB.out.1 H3.out
  · have hwp := List.length_pos_iff.2 hw
    rw [hW] at hm HB
    have HMN := Hd.mk hm
    have HWL := Hd.mk hwl
    have HPY := Hd.mk (fun W => pick_calls py (R.way.length : Int) (by omega) W)
    have hgt : (0 : Int) < (R.way.length : Int) := by omega
    clear hw hm hW
    go_enter Tryz.func24, Tryz.ntmps24
    go_wp2_with (first
      | (go_at_call_of 22 (Value.int .i64 px); refine (HPK.out _).mono ?_; rintro e w2 ⟨kq, rfl, hk0, hk1, rfl⟩)
      | (go_at_call 33; refine HMN.out.mono ?_; rintro e w2 ⟨rfl, rfl⟩)
      | (go_at_call_of 22 (Value.int .i64 py); refine (HPY.out _).mono ?_; rintro e w2 ⟨iq, rfl, hi0, hi1, rfl⟩)
      | (go_at_call 32; refine (rmquiet_calls (HL.out.rm.below HB.out.1) HL.out.ok (by have := HL.out.nn; omega) (by have := HL.out.bb; omega) (by have := HL.out.cl; omega)).mono ?_; rintro e w3 ⟨rfl, h3⟩; have H3 := Hd.mk h3; clear h3))
    go_ret
    exact KpPost.mk' HL.out.rm .quiet HB.out.1 H3.out
set_option maxHeartbeats 8000000 in
theorem kplays_2 {n : Nat} {px py : Int} {v : Value} {l : List PT} (h : KpI w F r R N B n v l) :
    Calls Tryz.prog 24 #[.pointer (some ⟨r.a, 0, none⟩), .int .i64 (n : Int), .agg #[.int .i64 (2), .int .i64 px, .int .i64 py, v]] w (KpPost F r R false w) := by
  have HL := Hd.mk h
  obtain ⟨hn1, hn2⟩ := h.n1
  obtain ⟨A, ca, hv, -⟩ := h.op.sl
  subst hv
  have HPK := Hd.mk (fun W => pick_calls px (n : Int) (by omega) W)
  obtain ⟨W, hW⟩ : ∃ W, W = w.alloc (.cells #[.int .i64 (2), .int .i64 px, .int .i64 py, .slice A l.length ca] 71) := ⟨_, rfl⟩
  have hb : Below w.heap.size w W := by rw [hW]; exact ex_alloc (Below.refl _ _) _
  have hbx : Blk W w.heap.size 71 #[.int .i64 (2), .int .i64 px, .int .i64 py, .slice A l.length ca] := by rw [hW]; exact Blk.new w _ _
  have hm := rmany_calls (h.rm.below hb)
  have HB := Hd.mk (And.intro hb hbx)
  have hwl := h.ok.ok.wl
  clear h hb hbx
  by_cases hw : R.way = []
  · have HW := Hd.mk hw
    rw [hw, List.length_nil] at hm
    rw [hW] at hm HB
    have HMN := Hd.mk hm
    clear hw hm hW hwl
    go_enter Tryz.func24, Tryz.ntmps24
    go_wp2_with (first
      | (go_at_call 22; refine (HPK.out _).mono ?_; rintro e w2 ⟨kq, rfl, hk0, hk1, rfl⟩)
      | (go_at_call 33; refine HMN.out.mono ?_; rintro e w2 ⟨rfl, rfl⟩)
      | (go_at_call 41; refine (rmdeliver_out (HL.out.rm.below HB.out.1) HW.out).mono ?_; rintro e w3 ⟨rfl, rfl⟩))
    go_ret
    exact KpPost.same HL.out.rm HB.out.1
  · have hwp := List.length_pos_iff.2 hw
    rw [hW] at hm HB
    have HMN := Hd.mk hm
    have HWL := Hd.mk hwl
    have HPY := Hd.mk (fun W => pick_calls py (R.way.length : Int) (by omega) W)
    have hgt : (0 : Int) < (R.way.length : Int) := by omega
    clear hw hm hW
    go_enter Tryz.func24, Tryz.ntmps24
    go_wp2_with (first
      | (go_at_call_of 22 (Value.int .i64 px); refine (HPK.out _).mono ?_; rintro e w2 ⟨kq, rfl, hk0, hk1, rfl⟩)
      | (go_at_call 33; refine HMN.out.mono ?_; rintro e w2 ⟨rfl, rfl⟩)
      | (go_at_call_of 22 (Value.int .i64 py); refine (HPY.out _).mono ?_; rintro e w2 ⟨iq, rfl, hi0, hi1, rfl⟩)
      | (go_at_call 41; obtain ⟨i, rfl⟩ := Int.eq_ofNat_of_zero_le hi0; refine (rmdeliver_calls (i := i) (HL.out.rm.below HB.out.1) HL.out.ok (by have := HL.out.nn; omega) (by have := HL.out.bb; omega) (by omega) (by have := HL.out.cl; omega)).mono ?_; rintro e w3 ⟨rfl, h3⟩; have H3 := Hd.mk h3; clear h3))
    go_ret
    exact KpPost.mk' HL.out.rm (.deliver i _) HB.out.1 H3.out
set_option maxHeartbeats 8000000 in
theorem kplays_3 {n : Nat} {px py : Int} {v : Value} {l : List PT} (h : KpI w F r R N B n v l) :
    Calls Tryz.prog 24 #[.pointer (some ⟨r.a, 0, none⟩), .int .i64 (n : Int), .agg #[.int .i64 (3), .int .i64 px, .int .i64 py, v]] w (KpPost F r R false w) := by
  have HL := Hd.mk h
  obtain ⟨hn1, hn2⟩ := h.n1
  obtain ⟨A, ca, hv, -⟩ := h.op.sl
  subst hv
  have HPK := Hd.mk (fun W => pick_calls px (n : Int) (by omega) W)
  obtain ⟨W, hW⟩ : ∃ W, W = w.alloc (.cells #[.int .i64 (3), .int .i64 px, .int .i64 py, .slice A l.length ca] 71) := ⟨_, rfl⟩
  have hb : Below w.heap.size w W := by rw [hW]; exact ex_alloc (Below.refl _ _) _
  have hbx : Blk W w.heap.size 71 #[.int .i64 (3), .int .i64 px, .int .i64 py, .slice A l.length ca] := by rw [hW]; exact Blk.new w _ _
  have hm := rmany_calls (h.rm.below hb)
  have HB := Hd.mk (And.intro hb hbx)
  have hwl := h.ok.ok.wl
  clear h hb hbx
  by_cases hw : R.way = []
  · have HW := Hd.mk hw
    rw [hw, List.length_nil] at hm
    rw [hW] at hm HB
    have HMN := Hd.mk hm
    clear hw hm hW hwl
    go_enter Tryz.func24, Tryz.ntmps24
    go_wp2_with (first
      | (go_at_call 22; refine (HPK.out _).mono ?_; rintro e w2 ⟨kq, rfl, hk0, hk1, rfl⟩)
      | (go_at_call 33; refine HMN.out.mono ?_; rintro e w2 ⟨rfl, rfl⟩)
      | (go_at_call 42; refine (rmlose_out (HL.out.rm.below HB.out.1) HW.out).mono ?_; rintro e w3 ⟨rfl, rfl⟩))
    go_ret
    exact KpPost.same HL.out.rm HB.out.1
  · have hwp := List.length_pos_iff.2 hw
    rw [hW] at hm HB
    have HMN := Hd.mk hm
    have HWL := Hd.mk hwl
    have HPY := Hd.mk (fun W => pick_calls py (R.way.length : Int) (by omega) W)
    have hgt : (0 : Int) < (R.way.length : Int) := by omega
    clear hw hm hW
    go_enter Tryz.func24, Tryz.ntmps24
    go_wp2_with (first
      | (go_at_call_of 22 (Value.int .i64 px); refine (HPK.out _).mono ?_; rintro e w2 ⟨kq, rfl, hk0, hk1, rfl⟩)
      | (go_at_call 33; refine HMN.out.mono ?_; rintro e w2 ⟨rfl, rfl⟩)
      | (go_at_call_of 22 (Value.int .i64 py); refine (HPY.out _).mono ?_; rintro e w2 ⟨iq, rfl, hi0, hi1, rfl⟩)
      | (go_at_call 42; obtain ⟨i, rfl⟩ := Int.eq_ofNat_of_zero_le hi0; refine (rmlose_calls (i := i) (HL.out.rm.below HB.out.1) (by omega) HWL.out).mono ?_; rintro e w3 ⟨rfl, h3⟩; have H3 := Hd.mk h3; clear h3))
    go_ret
    exact KpPost.mk' HL.out.rm (.out i _) HB.out.1 H3.out
set_option maxHeartbeats 8000000 in
theorem kplays_4 {n : Nat} {px py : Int} {v : Value} {l : List PT} (h : KpI w F r R N B n v l) :
    Calls Tryz.prog 24 #[.pointer (some ⟨r.a, 0, none⟩), .int .i64 (n : Int), .agg #[.int .i64 (4), .int .i64 px, .int .i64 py, v]] w (KpPost F r R false w) := by
  have HL := Hd.mk h
  obtain ⟨hn1, hn2⟩ := h.n1
  obtain ⟨A, ca, hv, -⟩ := h.op.sl
  subst hv
  have HPK := Hd.mk (fun W => pick_calls px (n : Int) (by omega) W)
  obtain ⟨W, hW⟩ : ∃ W, W = w.alloc (.cells #[.int .i64 (4), .int .i64 px, .int .i64 py, .slice A l.length ca] 71) := ⟨_, rfl⟩
  have hb : Below w.heap.size w W := by rw [hW]; exact ex_alloc (Below.refl _ _) _
  have hbx : Blk W w.heap.size 71 #[.int .i64 (4), .int .i64 px, .int .i64 py, .slice A l.length ca] := by rw [hW]; exact Blk.new w _ _
  have hm := rmany_calls (h.rm.below hb)
  have HB := Hd.mk (And.intro hb hbx)
  have hwl := h.ok.ok.wl
  clear h hb hbx
  by_cases hw : R.way = []
  · have HW := Hd.mk hw
    rw [hw, List.length_nil] at hm
    rw [hW] at hm HB
    have HMN := Hd.mk hm
    clear hw hm hW hwl
    go_enter Tryz.func24, Tryz.ntmps24
    go_wp2_with (first
      | (go_at_call 22; refine (HPK.out _).mono ?_; rintro e w2 ⟨kq, rfl, hk0, hk1, rfl⟩)
      | (go_at_call 33; refine HMN.out.mono ?_; rintro e w2 ⟨rfl, rfl⟩)
      | (go_at_call 44; refine (rmtwice_out (HL.out.rm.below HB.out.1) HW.out).mono ?_; rintro e w3 ⟨rfl, rfl⟩))
    go_ret
    exact KpPost.same HL.out.rm HB.out.1
  · have hwp := List.length_pos_iff.2 hw
    rw [hW] at hm HB
    have HMN := Hd.mk hm
    have HWL := Hd.mk hwl
    have HPY := Hd.mk (fun W => pick_calls py (R.way.length : Int) (by omega) W)
    have hgt : (0 : Int) < (R.way.length : Int) := by omega
    clear hw hm hW
    go_enter Tryz.func24, Tryz.ntmps24
    go_wp2_with (first
      | (go_at_call_of 22 (Value.int .i64 px); refine (HPK.out _).mono ?_; rintro e w2 ⟨kq, rfl, hk0, hk1, rfl⟩)
      | (go_at_call 33; refine HMN.out.mono ?_; rintro e w2 ⟨rfl, rfl⟩)
      | (go_at_call_of 22 (Value.int .i64 py); refine (HPY.out _).mono ?_; rintro e w2 ⟨iq, rfl, hi0, hi1, rfl⟩)
      | (go_at_call 44; obtain ⟨i, rfl⟩ := Int.eq_ofNat_of_zero_le hi0; refine (rmtwice_calls (i := i) (HL.out.rm.below HB.out.1) (List.getElem?_eq_getElem (by omega)) HWL.out (by have := HL.out.ok.l0; have := HL.out.ok.bd; have := HL.out.bb; omega)).mono ?_; rintro e w3 ⟨rfl, h3⟩; have H3 := Hd.mk h3; clear h3))
    go_ret
    exact KpPost.mk' HL.out.rm (.again i _) HB.out.1 H3.out
set_option maxHeartbeats 8000000 in
theorem kplays_1 {n : Nat} {px py : Int} {v : Value} {l : List PT} (h : KpI w F r R N B n v l) :
    Calls Tryz.prog 24 #[.pointer (some ⟨r.a, 0, none⟩), .int .i64 (n : Int), .agg #[.int .i64 (1), .int .i64 px, .int .i64 py, v]] w (KpPost F r R false w) := by
  have HL := Hd.mk h
  obtain ⟨hn1, hn2⟩ := h.n1
  obtain ⟨A, ca, hv, -⟩ := h.op.sl
  subst hv
  have HPK := Hd.mk (fun W => pick_calls px (n : Int) (by omega) W)
  obtain ⟨W, hW⟩ : ∃ W, W = w.alloc (.cells #[.int .i64 (1), .int .i64 px, .int .i64 py, .slice A l.length ca] 71) := ⟨_, rfl⟩
  have hb : Below w.heap.size w W := by rw [hW]; exact ex_alloc (Below.refl _ _) _
  have hbx : Blk W w.heap.size 71 #[.int .i64 (1), .int .i64 px, .int .i64 py, .slice A l.length ca] := by rw [hW]; exact Blk.new w _ _
  have hm := rmany_calls (h.rm.below hb)
  have HB := Hd.mk (And.intro hb hbx)
  have hwl := h.ok.ok.wl
  clear h hb hbx
  by_cases hw : R.way = []
  · have HW := Hd.mk hw
    rw [hw, List.length_nil] at hm
    rw [hW] at hm HB
    have HMN := Hd.mk hm
    clear hw hm hW hwl
    go_enter Tryz.func24, Tryz.ntmps24
    go_wp2_with (first
      | (go_at_call 22; refine (HPK.out _).mono ?_; rintro e w2 ⟨kq, rfl, hk0, hk1, rfl⟩)
      | (go_at_call 33; refine HMN.out.mono ?_; rintro e w2 ⟨rfl, rfl⟩)
      | (go_at_call 38; obtain ⟨k, rfl⟩ := Int.eq_ofNat_of_zero_le hk0; refine (rmsend_calls (k := k) (HL.out.rm.below HB.out.1) HL.out.ok (by have := HL.out.nn; omega) (by have := HL.out.bb; omega) (List.getElem?_eq_getElem (by rw [HL.out.cl]; omega))).mono ?_; rintro e w3 ⟨rfl, h3⟩; have H3 := Hd.mk h3; clear h3))
    go_ret
    exact KpPost.mk' HL.out.rm (.asks k _) HB.out.1 H3.out
  · have hwp := List.length_pos_iff.2 hw
    rw [hW] at hm HB
    have HMN := Hd.mk hm
    have HWL := Hd.mk hwl
    have HPY := Hd.mk (fun W => pick_calls py (R.way.length : Int) (by omega) W)
    have hgt : (0 : Int) < (R.way.length : Int) := by omega
    clear hw hm hW
    go_enter Tryz.func24, Tryz.ntmps24
    go_wp2_with (first
      | (go_at_call_of 22 (Value.int .i64 px); refine (HPK.out _).mono ?_; rintro e w2 ⟨kq, rfl, hk0, hk1, rfl⟩)
      | (go_at_call 33; refine HMN.out.mono ?_; rintro e w2 ⟨rfl, rfl⟩)
      | (go_at_call_of 22 (Value.int .i64 py); refine (HPY.out _).mono ?_; rintro e w2 ⟨iq, rfl, hi0, hi1, rfl⟩)
      | (go_at_call 38; obtain ⟨k, rfl⟩ := Int.eq_ofNat_of_zero_le hk0; refine (rmsend_calls (k := k) (HL.out.rm.below HB.out.1) HL.out.ok (by have := HL.out.nn; omega) (by have := HL.out.bb; omega) (List.getElem?_eq_getElem (by rw [HL.out.cl]; omega))).mono ?_; rintro e w3 ⟨rfl, h3⟩; have H3 := Hd.mk h3; clear h3))
    go_ret
    exact KpPost.mk' HL.out.rm (.asks k _) HB.out.1 H3.out
end
end Go.Proofs.YtdgdajnbkfmijaaGreatDoor
/- keep.plays: an edit; and whatever act. -/
namespace Go.Proofs.YtdgdajnbkfmijaaGreatDoor
open Go.RowKit Go.Sort
set_option maxRecDepth 100000
section
attribute [local go_sem] add_mk
variable {F : Nat → Prop} {w : World} {r : RP} {R : RM} {N B : Int}
theorem of_bound {R : List Int} (hb : bl R ≤ 6000) (u : Int) : 0 ≤ (cnt R).of u ∧ (cnt R).of u ≤ 1000000 :=
  ⟨of_nn _ _, by have := Go.Proofs.YtdgdajnbkfmijaaGreatDoor.of_le (rs := R) (n := 6000) (by have := of_len R (u := 1) (by decide); have := of_one_bl R; omega) u; omega⟩
/-- What an edit is played on. -/
structure Kp0 (w wr : World) (F : Nat → Prop) (r : RP) (R : RM) (N B : Int) (n k f : Nat) (v : Value) (l : List PT) (C : CV) (c : CP) (px py : Int) : Prop where
  kp : KpI w F r R N B n v l
  bel : Below w.heap.size w wr
  box : BXA w.heap.size (.int .i64 0) (.int .i64 px) (.int .i64 py) v wr
  sh : ShS wr f C.unit C.doc
  hC : R.cl[k]? = some C
  hc : r.cs[k]? = some c
theorem Kp0.below {w wr wq : World} {n k f : Nat} {v : Value} {l : List PT} {C : CV} {c : CP} {px py : Int} (h : Kp0 w wr F r R N B n k f v l C c px py) (hb : Below wr.heap.size wr wq) : Kp0 w wq F r R N B n k f v l C c px py :=
  ⟨h.kp, bstep h.bel hb, BXA.of (h.box.1.below hb h.box.1.lt), h.sh.below hb, h.hC, h.hc⟩
set_option maxHeartbeats 16000000 in
theorem kplays_0 {n : Nat} {px py : Int} {v : Value} {l : List PT} (h : KpI w F r R N B n v l) :
    Calls Tryz.prog 24 #[.pointer (some ⟨r.a, 0, none⟩), .int .i64 (n : Int), .agg #[.int .i64 0, .int .i64 px, .int .i64 py, v]] w (KpPost F r R false w) := by
  have HL := Hd.mk h
  obtain ⟨hn1, hn2⟩ := h.n1
  obtain ⟨A, ca, hv, -⟩ := h.op.sl
  subst hv
  have HPK := Hd.mk (fun W => pick_calls px (n : Int) (by omega) W)
  have HPY := Hd.mk (fun (hw : 0 < R.way.length) W => pick_calls py (R.way.length : Int) (by have := h.ok.ok.wl; omega) W)
  obtain ⟨W, hW⟩ : ∃ W, W = w.alloc (.cells #[.int .i64 0, .int .i64 px, .int .i64 py, .slice A l.length ca] 71) := ⟨_, rfl⟩
  have hb : Below w.heap.size w W := by rw [hW]; exact ex_alloc (Below.refl _ _) _
  have hbx : Blk W w.heap.size 71 #[.int .i64 0, .int .i64 px, .int .i64 py, .slice A l.length ca] := by rw [hW]; exact Blk.new w _ _
  have HMN := Hd.mk (rmany_calls (h.rm.below hb))
  have HB := Hd.mk (And.intro hb hbx)
  have HST : Hd (∀ (k : Nat), k < n → ∃ C c, R.cl[k]? = some C ∧ r.cs[k]? = some c ∧ CliR W F c C ∧ U.AllR C.doc ∧ bl C.doc ≤ 6000 ∧ (1 ≤ C.unit ∧ C.unit ≤ 3) ∧ Calls Tryz.prog 27 #[.pointer (some ⟨r.a, 0, none⟩), .int .i64 (k : Int)] W fun e w' => e = .returned (.tuple #[.pointer (some ⟨c.a, 0, none⟩), .nilIface]) ∧ w' = W) := ⟨fun k hk => by
    obtain ⟨C, hC⟩ : ∃ C, R.cl[k]? = some C := ⟨_, List.getElem?_eq_getElem (by rw [h.cl]; exact hk)⟩
    obtain ⟨c, hc, -⟩ := h.rm.get hC
    have hok := (h.ok.ok.cl k C hC).ok
    exact ⟨C, c, hC, hc, (h.rm.below hb).cli k c C hc hC, hok.doc_.1, hok.doc_.2, hok.u, rmclient_calls (h.rm.below hb) hc⟩⟩
  clear h hb hbx
  rw [hW] at HMN HB HST
  clear hW
  go_enter Tryz.func24, Tryz.ntmps24
  go_wp2_with (first
    | (go_at_call_of 22 (Value.int .i64 px); refine (HPK.out _).mono ?_; rintro e w2 ⟨kq, rfl, hk0, hk1, rfl⟩; obtain ⟨k, rfl⟩ := Int.eq_ofNat_of_zero_le hk0; obtain ⟨C, c, hC, hc, hcr, hall, hbl, hu, hcl⟩ := HST.out k (by omega); have HC := Hd.mk (And.intro hC (And.intro hc (And.intro hcr (And.intro hall (And.intro hbl hu))))); have HCL := Hd.mk hcl; clear hC hc hcr hall hbl hu hcl hk0 hk1)
    | (go_at_call 33; refine HMN.out.mono ?_; rintro e w2 ⟨rfl, rfl⟩)
    | (go_at_call_of 22 (Value.int .i64 py); refine (HPY.out (by omega) _).mono ?_; rintro e w2 ⟨iq, rfl, -, -, rfl⟩)
    | (go_at_call 27; refine HCL.out.mono ?_; rintro e w2 ⟨rfl, rfl⟩)
    | (go_at_call 64; refine (cunit_calls HC.out.2.2.1).mono ?_; rintro e w2 ⟨rfl, rfl⟩)
    | (go_at_call 31; refine (ctext_calls HC.out.2.2.1).mono ?_; rintro e w3 ⟨rfl, hb3⟩; have HB3 := Hd.mk hb3; clear hb3)
    | (go_at_call 63; refine (shnew_calls (u := C.unit) (sp_all HC.out.2.2.2.1) (by show bl C.doc ≤ _; have := HC.out.2.2.2.2.1; omega) _).mono ?_; rintro e w4 ⟨hb4, -, -, -, h4⟩; obtain ⟨f, rfl, hf4, hs4⟩ := h4 HC.out.2.2.2.2.2 rfl (by have := HC.out.2.2.2.2.1; omega); have HK4 := Hd.mk (Kp0.mk HL.out (bstep (bstep HB.out.1 HB3.out) hb4) (BXA.of ((HB.out.2.below HB3.out HB.out.2.lt).below hb4 (HB.out.2.below HB3.out HB.out.2.lt).lt)) hs4 HC.out.1 HC.out.2.1); clear hb4 h4 hf4 hs4))
  all_goals
    have HK4d := Hd.mk (HK4.out.below (ex_drew (Below.refl _ _)))
    have hbl4 : w.heap.size < w4.heap.size := HK4.out.box.1.lt
    have HLN := Hd.mk (of_bound HC.out.2.2.2.2.1 C.unit)
    go_region_held3 (fun w' => BXA w.heap.size (.int .i64 0) (.int .i64 px) (.int .i64 py) (.slice A l.length ca) w')
      (first | exact HBX7.out | exact HK6.out.box | exact HK5.out.box | exact HK4d.out.box | assumption)
      (first
        | (go_at_call 66; refine (len_calls HK4d.out.sh).mono ?_; rintro e w5 ⟨rfl, hb5⟩; have HK5 := Hd.mk (HK4d.out.below hb5); clear hb5)
        | (go_at_call 65; refine (kfit_new ((HL.out.below HK5.out.bel).op.sl) HLN.out).mono ?_; rintro e w6 ⟨⟨hb6, v6, L, rfl, hs6, -, -, hp6, hl6⟩, hf6⟩; have HK6 := Hd.mk (HK5.out.below hb6); have HO6 := Hd.mk (OpO.frs hs6 (hf6 _ rfl) (fun j hj => Nat.lt_of_lt_of_le (HL.out.rm.flt j hj) HK5.out.bel.size)); have HL6 := Hd.mk hl6; obtain ⟨A6, c6, rfl, -⟩ := hs6; clear hb6 hp6 hl6 hf6)
        | (go_at_call 35; refine (rmedit_calls (HL.out.rm.below HK6.out.bel) HL.out.ok (by have := HL.out.nn; omega) HC.out.1 HC.out.2.1 HO6.out (by have := HL6.out; omega)).mono ?_; rintro e w7 ⟨rfl, h7⟩; have HBX7 := Hd.mk (BXA.of (HK6.out.box.1.only (by obtain ⟨r', -, -, ho, -⟩ := h7; exact ho) (fun e => by have := HL.out.rm.lt _ e; omega))); have H7 := Hd.mk h7; clear h7))
    all_goals
      go_wp2_with fail
      go_ret
      exact KpPost.mk' HL.out.rm (.edit k L _) HK6.out.bel H7.out
theorem kplays_calls {n : Nat} {what px py : Int} {v : Value} {l : List PT} (h : KpI w F r R N B n v l) :
    Calls Tryz.prog 24 #[.pointer (some ⟨r.a, 0, none⟩), .int .i64 (n : Int), .agg #[.int .i64 what, .int .i64 px, .int .i64 py, v]] w (KpPost F r R (decide (what = 5)) w) := by
  by_cases h0 : what = 0
  · subst h0; exact kplays_0 h
  by_cases h1 : what = 1
  · subst h1; exact kplays_1 h
  by_cases h2 : what = 2
  · subst h2; exact kplays_2 h
  by_cases h3 : what = 3
  · subst h3; exact kplays_3 h
  by_cases h4 : what = 4
  · subst h4; exact kplays_4 h
  by_cases h5 : what = 5
  · subst h5; exact kplays_5 h
  exact kplays_x h h0 h1 h2 h3 h4 h5
end
end Go.Proofs.YtdgdajnbkfmijaaGreatDoor
/- A room of a law's own: all that may turn is new. -/
namespace Go.Proofs.YtdgdajnbkfmijaaGreatDoor
open Go.RowKit Go.Sort
set_option maxRecDepth 100000
theorem el_ints : El Tryz.prog 59 3 1 8 := El.mk' Tryz.underlying59 (by kernel_rfl) (by decide)
/-- An argument's operation lies outside of what is new. -/
theorem OpO.argR {w w3 : World} {F : Nat → Prop} {v : Value} {l : List PT} (h : Sl w 3 v l.length (opv l)) (hb : Below w.heap.size w w3) (hF : ∀ j, F j → w.heap.size ≤ j) : OpO F w3 v l := by
  refine ⟨h.below hb, fun ad n c e hn hf => ?_⟩
  obtain ⟨A, c', e', -, -, -, -, h5⟩ := h
  rw [e'] at e
  cases e
  obtain ⟨ad', e2, hb2, -⟩ := h5 hn
  cases e2
  have := hF _ hf
  omega
/-- A room of the law's own. -/
structure RmJ (w wr : World) (ra : Nat) (R : RM) (r : RP) : Prop where
  rm : RmR wr r.F r R
  a : r.a = ra
  bel : Below w.heap.size w wr
  new : ∀ j, r.F j → w.heap.size ≤ j
section
variable {w wr w' : World} {ra : Nat} {R R' : RM} {r : RP}
theorem RmR.shrink {F : Nat → Prop} (h : RmR w F r R) : RmR w r.F r R :=
  h.only (G := fun _ => False) (Only.refl _ _) (fun _ e => e.elim) (fun _ _ e => e) (fun j hj => .inl (h.sub j hj)) (fun _ e => e) (fun j hj => h.lt j hj)
theorem RmJ.step (h : RmJ w wr ra R r) (hs : RmS r.F r R' wr w') : ∃ r', RmJ w w' ra R' r' := by
  obtain ⟨r1, F1, a1, a2, a3, -, -, -, a4, -⟩ := RmS.next' h.rm hs
  have hz := h.bel.size
  exact ⟨r1, a3.shrink, a1.1.trans h.a, hs.below h.bel hz h.new, fun j hj => (a4 j hj).elim (h.new j) (fun e => by omega)⟩
theorem RmJ.below (h : RmJ w wr ra R r) (hb : Below wr.heap.size wr w') : RmJ w w' ra R r := ⟨h.rm.below hb, h.a, bstep h.bel hb, h.new⟩
end
end Go.Proofs.YtdgdajnbkfmijaaGreatDoor
