/- The closures that lay what is put and dropped behind an operation: ops.Norm's flush, ref.Gather's done. -/
import Derived.Test.YtdgdajnbkfmijaaGreatDoorMRoomMeets22
import Derived.Test.YtdgdajnbkfmijaaGreatDoorMRoomMeets1
import Derived.Deep.DeepCutAuto
namespace Go.Proofs.YtdgdajnbkfmijaaGreatDoor
open Go.RowKit
set_option maxRecDepth 100000
theorem el_part : El Tryz.prog 36 113 3 32 := El.mk' Tryz.underlying36 (by kernel_rfl) (by decide)
/-- What flush turns: its three variables, and the row of what stands. -/
def FlS (bp bo bd : Nat) (v : Value) (k : Nat) : Prop := k = bp ∨ k = bo ∨ k = bd ∨ v.ownBlock = some k
def FlPost (base bp bo bd : Nat) (v : Value) (out : List PT) (put : U.Bs) (drop : Int) (w : World) (e : Ending) (w' : World) : Prop :=
  e = .returned (.tuple #[]) ∧ ∃ v', Blk w' bo 36 #[v'] ∧ w'.ownsRow base 113 3 v' (out ++ flushP put drop).length (opv (out ++ flushP put drop)) ∧
    Blk w' bp 9 #[.string ⟨#[]⟩] ∧ Blk w' bd 3 #[.int .i64 0] ∧ Only (FlS bp bo bd v) w w'
theorem opv_put (b : U.Bs) : opv [⟨0, 0, b⟩] = (#[Value.int .i64 0, .int .i64 0, .string ⟨b.toArray⟩] : Array Value).toList := by rw [opv_one]
theorem opv_drop (d : Int) : opv [⟨0, d, []⟩] = (#[Value.int .i64 0, .int .i64 d, .string ⟨#[]⟩] : Array Value).toList := by rw [opv_one]
section
variable {base bp bo bd : Nat} {v v1 : Value} {out : List PT} {put : U.Bs} {drop : Int} {w w1 : World}
theorem own_ne {n : Nat} {xs : List Value} {b : Nat} (hown : w1.ownsRow base 113 3 v1 n xs) (h : b < base) : v1.ownBlock ≠ some b := fun e => by have := (hown.lt b e).1; omega
/-- The three stores at flush's end. -/
theorem flush_end {n : Nat} {xs : List Value} {s d x y z : Value} (hb : bp < base ∧ bo < base ∧ bd < base) (hne : bp ≠ bo ∧ bp ≠ bd ∧ bo ≠ bd)
    (hP : Blk w1 bp 9 #[x]) (hO : Blk w1 bo 36 #[y]) (hD : Blk w1 bd 3 #[z]) (hown : w1.ownsRow base 113 3 v1 n xs) :
    ∀ w4, w4 = ((w1.setCell ⟨bo, 0, none⟩ v1).setCell ⟨bp, 0, none⟩ s).setCell ⟨bd, 0, none⟩ d →
      Blk w4 bo 36 #[v1] ∧ w4.ownsRow base 113 3 v1 n xs ∧ Blk w4 bp 9 #[s] ∧ Blk w4 bd 3 #[d] ∧ Only (FlS bp bo bd v) w1 w4 := by
  rintro w4 rfl
  obtain ⟨b1, b2, b3⟩ := hb
  obtain ⟨n1, n2, n3⟩ := hne
  refine ⟨?_, ?_, ?_, ?_, ?_⟩
  · exact ((hO.set_ 0 v1).far (p := ⟨bp, 0, none⟩) (Ne.symm n1) s).far (p := ⟨bd, 0, none⟩) n3 d
  · exact ownsRow_setCell_other (ownsRow_setCell_other (ownsRow_setCell_other hown (own_ne hown b2) _) (own_ne hown b1) _) (own_ne hown b3) _
  · exact ((hP.far (p := ⟨bo, 0, none⟩) n1 v1).set_ 0 s).far (p := ⟨bd, 0, none⟩) n2 d
  · exact ((hD.far (p := ⟨bo, 0, none⟩) (Ne.symm n3) v1).far (p := ⟨bp, 0, none⟩) (Ne.symm n2) s).set_ 0 d
  · exact (((Only.refl (FlS bp bo bd v) w1).setCell (p := ⟨bo, 0, none⟩) (.inl (.inr (.inl rfl))) _).setCell (p := ⟨bp, 0, none⟩) (.inl (.inl rfl)) _).setCell (p := ⟨bd, 0, none⟩) (.inl (.inr (.inr (.inl rfl)))) _
theorem flush_end0 {n : Nat} {xs : List Value} {s d x z : Value} (hb : bp < base ∧ bo < base ∧ bd < base) (hne : bp ≠ bo ∧ bp ≠ bd ∧ bo ≠ bd)
    (hP : Blk w1 bp 9 #[x]) (hO : Blk w1 bo 36 #[v1]) (hD : Blk w1 bd 3 #[z]) (hown : w1.ownsRow base 113 3 v1 n xs) :
    ∀ w4, w4 = (w1.setCell ⟨bp, 0, none⟩ s).setCell ⟨bd, 0, none⟩ d →
      Blk w4 bo 36 #[v1] ∧ w4.ownsRow base 113 3 v1 n xs ∧ Blk w4 bp 9 #[s] ∧ Blk w4 bd 3 #[d] ∧ Only (FlS bp bo bd v) w1 w4 := by
  rintro w4 rfl
  obtain ⟨b1, b2, b3⟩ := hb
  obtain ⟨n1, n2, n3⟩ := hne
  refine ⟨?_, ?_, ?_, ?_, ?_⟩
  · exact (hO.far (p := ⟨bp, 0, none⟩) (Ne.symm n1) s).far (p := ⟨bd, 0, none⟩) n3 d
  · exact ownsRow_setCell_other (ownsRow_setCell_other hown (own_ne hown b1) _) (own_ne hown b3) _
  · exact (hP.set_ 0 s).far (p := ⟨bd, 0, none⟩) n2 d
  · exact (hD.far (p := ⟨bp, 0, none⟩) (Ne.symm n2) s).set_ 0 d
  · exact ((Only.refl (FlS bp bo bd v) w1).setCell (p := ⟨bp, 0, none⟩) (.inl (.inl rfl)) _).setCell (p := ⟨bd, 0, none⟩) (.inl (.inr (.inr (.inl rfl)))) _
theorem fl_mid {v2 : Value} (hg : w.grownBy w1 v.ownBlock) (hk : ∀ k, v1.ownBlock = some k → v.ownBlock = some k ∨ w.heap.size ≤ k) {w2 : World} (hg2 : (w1.setCell ⟨bo, 0, none⟩ v2).grownBy w2 v1.ownBlock) : Only (FlS bp bo bd v) w w2 := by
  have h1 : Only (FlS bp bo bd v) w w1 := (Only.of_grown hg).mono (fun _ _ e => .inr (.inr (.inr e.symm)))
  refine (h1.setCell (p := ⟨bo, 0, none⟩) (.inl (.inr (.inl rfl))) v2).step (Only.of_grown hg2) (fun i hi e => ?_)
  rcases hk i e.symm with h | h
  · exact .inr (.inr (.inr h))
  · omega
theorem fl_grown (h : w.grownBy w1 v.ownBlock) : Only (FlS bp bo bd v) w w1 := (Only.of_grown h).mono (fun _ _ e => .inr (.inr (.inr e.symm)))
attribute [local go_sem] add_mk
set_option maxHeartbeats 8000000 in
theorem flush_calls (hb : bp < base ∧ bo < base ∧ bd < base) (hbase : base ≤ w.heap.size) (hne : bp ≠ bo ∧ bp ≠ bd ∧ bo ≠ bd)
    (hP : Blk w bp 9 #[.string ⟨put.toArray⟩]) (hO : Blk w bo 36 #[v]) (hD : Blk w bd 3 #[.int .i64 drop])
    (hown : w.ownsRow base 113 3 v out.length (opv out)) (hlen : out.length ≤ 1099511627776) :
    Calls Tryz.prog 155 #[.pointer (some ⟨bp, 0, none⟩), .pointer (some ⟨bo, 0, none⟩), .pointer (some ⟨bd, 0, none⟩)] w (FlPost base bp bo bd v out put drop w) := by
  have HBB := Hd.mk hb
  have HNN := Hd.mk hne
  obtain ⟨b1, b2, b3⟩ := hb
  obtain ⟨n1, n2, n3⟩ := hne
  have n1' := Ne.symm n1
  have n2' := Ne.symm n2
  have n3' := Ne.symm n3
  have cp := hP.cell 0
  have co := hO.cell 0
  have cd := hD.cell 0
  have fp := hP.frozen 0
  have fo := hO.frozen 0
  have fd := hD.frozen 0
  simp only [List.getElem?_toArray, List.getElem?_cons_zero] at cp co cd
  have HP := Hd.mk hP
  have HO := Hd.mk hO
  have HD := Hd.mk hD
  have HW := Hd.mk hown
  obtain ⟨A, k, rfl⟩ := own_form hown
  clear hP hO hD hown
  by_cases h1 : put = []
  · subst h1
    by_cases h2 : 0 < drop
    · have HE : Hd (opv (out ++ flushP [] drop) = opv out ++ (#[Value.int .i64 0, .int .i64 drop, .string ⟨#[]⟩] : Array Value).toList ∧ (out ++ flushP [] drop).length = out.length + 1) := ⟨by rw [flushP, if_pos rfl, if_pos h2, opv_append, List.nil_append, opv_drop], by rw [flushP, if_pos rfl, if_pos h2]; simp⟩
      go_enter Tryz.func155, Tryz.ntmps155
      go_wp2_with (at_builtin; refine append_lit' el_part #[.int .i64 0, .int .i64 drop, .string ⟨#[]⟩] HW.out rfl rfl rfl rfl (by simp) rfl (one3 rfl rfl rfl) (by unfold maxLen; omega) (by omega) hbase ?_; intro v1 w1 hown1 hbel1 hgr1 hnew1; obtain ⟨A1, k1, rfl⟩ := own_form hown1; have hO1 := HO.out.below hbel1 b2; have hP1 := HP.out.below hbel1 b1; have hD1 := HD.out.below hbel1 b3; have co1 := hO1.cell 0; have cp1 := hP1.cell 0; have cd1 := hD1.cell 0; have fo1 := hO1.frozen 0; have fp1 := hP1.frozen 0; have fd1 := hD1.frozen 0; simp only [List.getElem?_toArray, List.getElem?_cons_zero] at co1 cp1 cd1; have HO1 := Hd.mk hO1; have HP1 := Hd.mk hP1; have HD1 := Hd.mk hD1; have HW1 := Hd.mk hown1; have HG1 := Hd.mk hgr1; have hz1 := Nat.le_trans hbase hbel1.size; have HK1 := Hd.mk hnew1; clear hO1 hP1 hD1 hown1 hbel1 hgr1 hnew1)
      go_end0
      obtain ⟨r1, r2, r3, r4, r5⟩ := flush_end (v := .slice A out.length k) (s := .string ⟨#[]⟩) (d := .int .i64 0) HBB.out HNN.out HP1.out HO1.out HD1.out HW1.out _ rfl
      exact ⟨rfl, _, r1, by rw [HE.out.1, HE.out.2]; exact r2, r3, r4, (fl_grown HG1.out).trans r5⟩
    · have HE : Hd (opv (out ++ flushP [] drop) = opv out ∧ (out ++ flushP [] drop).length = out.length) := ⟨by rw [flushP, if_pos rfl, if_neg h2]; simp, by rw [flushP, if_pos rfl, if_neg h2]; simp⟩
      go_enter Tryz.func155, Tryz.ntmps155
      go_wp2_with fail
      go_end0
      obtain ⟨r1, r2, r3, r4, r5⟩ := flush_end0 (v := .slice A out.length k) (s := .string ⟨#[]⟩) (d := .int .i64 0) HBB.out HNN.out HP.out HO.out HD.out HW.out _ rfl
      exact ⟨rfl, _, r1, by rw [HE.out.1, HE.out.2]; exact r2, r3, r4, r5⟩
  · have h1' : (put == []) = false := by rw [beq_eq_false_iff_ne]; exact h1
    by_cases h2 : 0 < drop
    · have HE : Hd (opv (out ++ flushP put drop) = opv out ++ (#[Value.int .i64 0, .int .i64 0, .string ⟨put.toArray⟩] : Array Value).toList ++ (#[Value.int .i64 0, .int .i64 drop, .string ⟨#[]⟩] : Array Value).toList ∧ (out ++ flushP put drop).length = out.length + 1 + 1) := ⟨by rw [flushP, if_neg h1, if_pos h2, opv_append, opv_append, opv_put, opv_drop, List.append_assoc], by rw [flushP, if_neg h1, if_pos h2]; simp⟩
      have tok1 : True := trivial
      go_enter Tryz.func155, Tryz.ntmps155
      go_upto_region 3 with (at_builtin; have _t := tok1; refine append_lit' el_part #[.int .i64 0, .int .i64 0, .string ⟨put.toArray⟩] HW.out rfl rfl rfl rfl (by simp) rfl (one3 rfl rfl rfl) (by unfold maxLen; omega) (by omega) hbase ?_; intro v1 w1 hown1 hbel1 hgr1 hnew1; obtain ⟨A1, k1, rfl⟩ := own_form hown1; have hO1 := HO.out.below hbel1 b2; have hP1 := HP.out.below hbel1 b1; have hD1 := HD.out.below hbel1 b3; have co1 := hO1.cell 0; have cp1 := hP1.cell 0; have cd1 := hD1.cell 0; have fo1 := hO1.frozen 0; have fp1 := hP1.frozen 0; have fd1 := hD1.frozen 0; simp only [List.getElem?_toArray, List.getElem?_cons_zero] at co1 cp1 cd1; have HO1 := Hd.mk hO1; have HP1 := Hd.mk hP1; have HD1 := Hd.mk hD1; have HW1 := Hd.mk hown1; have HG1 := Hd.mk hgr1; have hz1 := Nat.le_trans hbase hbel1.size; have HK1 := Hd.mk hnew1; clear tok1 hO1 hP1 hD1 hown1 hbel1 hgr1 hnew1)
      go_wp2_with (at_builtin; refine append_lit' el_part #[.int .i64 0, .int .i64 drop, .string ⟨#[]⟩] (ownsRow_setCell_other HW1.out (own_ne HW1.out b2) _) rfl rfl rfl rfl (by simp) rfl (one3 rfl rfl rfl) (by unfold maxLen; omega) (by omega) (by simp only [World.size_setCell]; exact hz1) ?_; intro v2 w2 hown2 hbel2 hgr2 hnew2; obtain ⟨A2, k2, rfl⟩ := own_form hown2; have hO2 := (Blk.put1 HO1.out).below hbel2 b2; have hP2 := (HP1.out.far (p := ⟨bo, 0, none⟩) n1 _).below hbel2 b1; have hD2 := (HD1.out.far (p := ⟨bo, 0, none⟩) n3' _).below hbel2 b3; have co2 := hO2.cell 0; have cp2 := hP2.cell 0; have cd2 := hD2.cell 0; have fo2 := hO2.frozen 0; have fp2 := hP2.frozen 0; have fd2 := hD2.frozen 0; simp only [List.getElem?_toArray, List.getElem?_cons_zero] at co2 cp2 cd2; have HO2 := Hd.mk hO2; have HP2 := Hd.mk hP2; have HD2 := Hd.mk hD2; have HW2 := Hd.mk hown2; have HG2 := Hd.mk hgr2; have HK2 := Hd.mk hnew2; clear hO2 hP2 hD2 hown2 hbel2 hgr2 hnew2)
      go_end0
      obtain ⟨r1, r2, r3, r4, r5⟩ := flush_end (v := .slice A out.length k) (s := .string ⟨#[]⟩) (d := .int .i64 0) HBB.out HNN.out HP2.out HO2.out HD2.out HW2.out _ rfl
      exact ⟨rfl, _, r1, by rw [HE.out.1, HE.out.2]; exact r2, r3, r4, (fl_mid HG1.out HK1.out HG2.out).trans r5⟩
    · have HE : Hd (opv (out ++ flushP put drop) = opv out ++ (#[Value.int .i64 0, .int .i64 0, .string ⟨put.toArray⟩] : Array Value).toList ∧ (out ++ flushP put drop).length = out.length + 1) := ⟨by rw [flushP, if_neg h1, if_neg h2, opv_append, List.append_nil, opv_put], by rw [flushP, if_neg h1, if_neg h2]; simp⟩
      go_enter Tryz.func155, Tryz.ntmps155
      go_wp2_with (at_builtin; refine append_lit' el_part #[.int .i64 0, .int .i64 0, .string ⟨put.toArray⟩] HW.out rfl rfl rfl rfl (by simp) rfl (one3 rfl rfl rfl) (by unfold maxLen; omega) (by omega) hbase ?_; intro v1 w1 hown1 hbel1 hgr1 hnew1; obtain ⟨A1, k1, rfl⟩ := own_form hown1; have hO1 := HO.out.below hbel1 b2; have hP1 := HP.out.below hbel1 b1; have hD1 := HD.out.below hbel1 b3; have co1 := hO1.cell 0; have cp1 := hP1.cell 0; have cd1 := hD1.cell 0; have fo1 := hO1.frozen 0; have fp1 := hP1.frozen 0; have fd1 := hD1.frozen 0; simp only [List.getElem?_toArray, List.getElem?_cons_zero] at co1 cp1 cd1; have HO1 := Hd.mk hO1; have HP1 := Hd.mk hP1; have HD1 := Hd.mk hD1; have HW1 := Hd.mk hown1; have HG1 := Hd.mk hgr1; have hz1 := Nat.le_trans hbase hbel1.size; have HK1 := Hd.mk hnew1; clear hO1 hP1 hD1 hown1 hbel1 hgr1 hnew1)
      go_end0
      obtain ⟨r1, r2, r3, r4, r5⟩ := flush_end (v := .slice A out.length k) (s := .string ⟨#[]⟩) (d := .int .i64 0) HBB.out HNN.out HP1.out HO1.out HD1.out HW1.out _ rfl
      exact ⟨rfl, _, r1, by rw [HE.out.1, HE.out.2]; exact r2, r3, r4, (fl_grown HG1.out).trans r5⟩
end
end Go.Proofs.YtdgdajnbkfmijaaGreatDoor
