/- The reference's Turn. -/
import Derived.Test.YtgokmldngnmmhaaDoorMShapePlays37
import Derived.Test.YtgokmldngnmmhaaDoorMShapePlays26
import Derived.Test.YtgokmldngnmmhaaDoorMShapePlays43
namespace Go.Proofs.YtgokmldngnmmhaaDoor
open Go.RowKit
set_option maxRecDepth 100000
def RTnPost (R : List Int) (l : List PT) (u tu : Int) (w : World) (e : Ending) (w' : World) : Prop :=
  Below w.heap.size w w' ∧ ∃ v o k, e = .returned (.tuple #[v, .int .i64 k]) ∧ Sl w' 3 v o.length (opv o) ∧ TnR R l u tu o k
section
attribute [local go_sem] add_mk Cn.v_eq
set_option maxHeartbeats 8000000 in
theorem rturn_calls {R : List Int} {l : List PT} {v : Value} {n : Nat} {u tu : Int} {w : World} (hsl : Sl w 3 v n (opv l)) (hp : ∀ p ∈ l, p.put.length ≤ 35184372087808) (hR : U.AllR R) (hl : bl R ≤ 8000) (hn : n ≤ 1000) :
    Calls Tryd.prog 34 #[.string ⟨(U.encs R).toArray⟩, .int .i64 u, .int .i64 tu, v] w (RTnPost R l u tu w) := by
  have hln : l.length = n := by have := hsl.len; rw [opv_length] at this; omega
  have HSL := Hd.mk hsl
  have HP := Hd.mk hp
  have HA := Hd.mk hR
  have HLN := Hd.mk hln
  have HBR := Hd.mk hl
  obtain ⟨A, cc, rfl, -⟩ := hsl
  have hlen : (U.encs R).length = bl R := rfl
  have HC := fun w1 => Hd.mk (rcount_calls (U.sp_encs hR) w1 (by rw [hlen]; omega))
  clear hp hR hln hlen
  by_cases hu : 1 ≤ u ∧ u ≤ 3
  · by_cases ht : 1 ≤ tu ∧ tu ≤ 3
    · have HU := Hd.mk hu
      have HT := Hd.mk ht
      obtain ⟨m, hm⟩ : ∃ m, m = (cnt R).of u := ⟨_, rfl⟩
      have hm0 : 0 ≤ m := by rw [hm]; exact of_nn _ _
      have hm1 : m ≤ 40000 := by
        have h1 := of_le (rs := R) (n := bl R) (bl_len R) u
        omega
      have HM := Hd.mk hm
      clear hu ht hm
      obtain ⟨ck, hck⟩ : ∃ ck, ck = chk l m := ⟨_, rfl⟩
      have HCK := Hd.mk hck
      clear hck
      by_cases h0 : ck = 0
      · subst h0
        obtain ⟨hgd, hwas⟩ := chk_zero HCK.out.symm
        have HGD := Hd.mk hgd
        have HWAS := Hd.mk hwas
        clear hgd hwas
        go_enter Tryd.func34, Tryd.ntmps34
        go_wp2_with (first
          | (go_at_call_of 87 (Value.int .i64 u); refine (inT HU.out _).mono ?_; rintro e w3 ⟨rfl, rfl⟩)
          | (go_at_call_of 87 (Value.int .i64 tu); refine (inT HT.out _).mono ?_; rintro e w3 ⟨rfl, rfl⟩)
          | (go_at_call 18; refine (HC _).out.mono ?_; rintro e w1 ⟨hb1, he, -⟩; obtain rfl := he rfl; have HB1 := Hd.mk hb1; clear hb1 he; unfold fltV)
          | (go_at_call 38; refine (refIn_calls (cnt R) u _).mono ?_; rintro e w2 ⟨rfl, hb2⟩; rw [← HM.out]; have HB2 := Hd.mk (bstep (ex_alloc (ex_alloc HB1.out _) _) hb2); clear hb2)
          | (go_at_call 77; refine (rcheck_calls (HSL.out.below HB2.out) HP.out (by omega)).mono ?_; rintro e w3 ⟨rfl, hb3⟩; rw [← HCK.out]; have HB3 := Hd.mk (bstep HB2.out hb3); clear hb3))
        go_loopw [13, 14, 15, 43] (fun out av wv i wr => ∃ (k : Nat) (c : Cn) (a : Int) (ol : List PT), i = .int .i64 (k : Int) ∧ av = .int .i64 a ∧ wv = .int .i64 (c.of tu) ∧ wr.ownsRow w3.heap.size 111 3 out k (opv ol) ∧ Below w3.heap.size w3 wr ∧ TnI R u tu l m k c a ol) (fun _ _ _ i _ => n - (intOf i).toNat)
        case atStart => exact ⟨0, Cn.zero, 0, [], rfl, rfl, by rw [tn_zero], World.ownsRow_nil _ _ _ _, Below.refl _ _, TnI.start HWAS.out⟩
        case round =>
          obtain ⟨k, c, a, ol, rfl, rfl, rfl, hown, hbel, hI⟩ := hrel
          have HB := Hd.mk hbel
          have HOW := Hd.mk hown
          have HI := Hd.mk hI
          obtain ⟨Ao, co, rfl⟩ := own_form hown
          have hsz := hbel.size
          have hkle : k ≤ n := by have := hI.k_le; have := HLN.out; omega
          have hc0 := hI.c0
          have hc1 := hI.c1
          by_cases hkn : k < n
          · have hkl : k < l.length := by have := HLN.out; omega
            obtain ⟨b0, o0, c0, hv, hlt, y0, y1, y2⟩ := (HSL.out.below (bstep HB3.out hbel)).part hkn hkl
            cases hv
            have hbd := hI.bound HGD.out hkl
            have ha0 := hI.a0
            have harg := (HGD.out _ (List.getElem_mem hkl)).1
            have HST : Hd (∀ c9 e, AheadR u (a + (l[k].keep + l[k].drop)) R c9 (erV e) → e ≠ 0 → (tnF R u tu Cn.zero 0 l).2 = e) := ⟨fun c9 e h1 h2 => HI.out.stop hkl h1 h2⟩
            have HSP : Hd (∀ c9, AheadR u (a + (l[k].keep + l[k].drop)) R c9 (erV 0) → TnI R u tu l m (k + 1) c9 (a + (l[k].keep + l[k].drop)) (ol ++ [tnP l[k] (c9.of tu - c.of tu)])) := ⟨fun c9 h1 => HI.out.step HGD.out hkl (by have := bl_len R; have := HBR.out; omega) h1⟩
            clear hown hbel hI HI
            generalize l[k] = q at *
            rcases harg.cases with ⟨b, hb, rfl⟩ | ⟨d, hd, rfl⟩ | ⟨d, hd, rfl⟩
            · have hq' : (b == []) = false := by rw [beq_eq_false_iff_ne]; exact hb
              dsimp only at y0 y1 y2 hbd
              have hsz2 : a + (0 + 0) = a := by omega
              rw [hsz2] at HST HSP hbd
              have HBX : Hd (Blk (wr.alloc (.cells #[.int .i64 0, .int .i64 0, .string ⟨b.toArray⟩] 111)) wr.heap.size 111 #[.int .i64 0, .int .i64 0, .string ⟨b.toArray⟩]) := ⟨Blk.new _ _ _⟩
              have HO3 := Hd.mk ((Only.refl (fun j => j = wr.heap.size) wr).alloc (.cells #[.int .i64 0, .int .i64 0, .string ⟨b.toArray⟩] 111))
              clear hsz2
              go_wp2_with fail
              refine (rahead_calls HA.out (by have := HBR.out; omega)).mono ?_
              rintro e w4 ⟨hb4, c9, e9, rfl, hr9⟩
              have hbx4 := HBX.out.below hb4 HBX.out.lt
              have HBX4 := Hd.mk hbx4
              have HO4 := Hd.mk ((HO3.out.then_below hb4).alloc (.cells #[.int .i64 c9.b, .int .i64 c9.h, .int .i64 c9.r, .int .i64 c9.l] 36))
              have HB4 := Hd.mk (bstep (ex_alloc HB.out _) hb4)
              have HC4 : Hd (CnBlk (w4.alloc (.cells #[.int .i64 c9.b, .int .i64 c9.h, .int .i64 c9.r, .int .i64 c9.l] 36)) w4.heap.size c9) := ⟨heap_alloc_new w4 _⟩
              have hne : w4.heap.size ≠ wr.heap.size := by have := hbx4.lt; omega
              rw [Cn.v_eq]
              clear hb4
              by_cases he9 : e9 = 0
              · subst he9
                have hI2 := HSP.out c9 hr9
                have hx0 := hI2.c0
                have hx1 := hI2.c1
                have HI2 := Hd.mk hI2
                have HBX5 := Hd.mk (Blk.alloc hbx4 (.cells #[.int .i64 c9.b, .int .i64 c9.h, .int .i64 c9.r, .int .i64 c9.l] 36))
                obtain ⟨P0, P1, P2⟩ := cut_cells hbx4
                have PL := hbx4.lt
                clear hI2 hr9 HST HSP hbx4 y0 y1 y2
                go_wp2_with fail
                clear P0 P1 P2 PL
                refine (refIn_calls c9 tu _).mono ?_
                rintro e w5 ⟨rfl, hb5⟩
                have hbx5 := HBX5.out.below hb5 HBX5.out.lt
                have hc5 := HC4.out.below hb5 HC4.out.lt
                have HBX6 := Hd.mk hbx5
                obtain ⟨P0, P1, P2⟩ := cut_cells hbx5
                have PL := hbx5.lt
                have PF := hbx5.frozen
                have HO5 := Hd.mk (HO4.out.then_below hb5)
                have HB5 := Hd.mk (bstep (ex_alloc HB4.out _) hb5)
                clear hb5 hbx5 hc5
                have HOW2 := Hd.mk (own_only HOW.out HO5.out (fun j e1 e2 => by have := (HOW.out.lt j e1).2; omega))
                have hk1 : k + 1 ≤ maxLen := by unfold maxLen; omega
                have hk2 : (k + 1) * 32 ≤ 140737488355328 := by omega
                have hk3 : w3.heap.size ≤ w5.heap.size := HB5.out.size
                go_wp2_with (at_builtin; refine append_lit' el_part #[.int .i64 0, .int .i64 0, .string ⟨b.toArray⟩] HOW2.out rfl rfl rfl rfl (by simp) rfl (one3 rfl rfl rfl) hk1 hk2 hk3 ?_; intro v9 w9 hown9 hbel9 hgr9 hnew9; obtain ⟨A9, k9, rfl⟩ := own_form hown9; have HO9 := Hd.mk hown9; have HB9 := Hd.mk hbel9; clear hown9 hbel9 hgr9 hnew9)
                exact ⟨⟨k + 1, c9, a, ol ++ [⟨0, 0, b⟩], by go_num, rfl, rfl, by rw [opv_append, opv_one]; exact HO9.out, HB5.out.trans HB9.out, by have h := HI2.out; rw [tnP_put] at h; exact h⟩, by simp only [intOf]; omega⟩
              · have HE := Hd.mk (HST.out c9 e9 hr9 he9)
                clear hr9 HST HSP y0 y1 y2 hbx4
                go_wp2_with fail
                go_ret2
                exact ⟨bstep HB3.out (ex_alloc HB4.out _), _, [], e9, rfl, Sl.nil _ _, fun h => absurd ⟨HU.out, HT.out⟩ h, fun _ h => absurd (by rw [← HM.out]; exact HCK.out.symm) h, fun _ _ => ⟨HE.out.symm, by rw [if_neg he9]⟩⟩
            · have hd' : (0 : Int) < (d : Int) := by omega
              dsimp only at y0 y1 y2 hbd
              have hsz2 : a + (0 + (d : Int)) = a + (d : Int) := by omega
              rw [hsz2] at HST HSP hbd
              have HBX : Hd (Blk (wr.alloc (.cells #[.int .i64 0, .int .i64 (d : Int), .string ⟨#[]⟩] 111)) wr.heap.size 111 #[.int .i64 0, .int .i64 (d : Int), .string ⟨#[]⟩]) := ⟨Blk.new _ _ _⟩
              have HO3 := Hd.mk ((Only.refl (fun j => j = wr.heap.size) wr).alloc (.cells #[.int .i64 0, .int .i64 (d : Int), .string ⟨#[]⟩] 111))
              clear hsz2
              go_wp2_with fail
              refine (rahead_calls HA.out (by have := HBR.out; omega)).mono ?_
              rintro e w4 ⟨hb4, c9, e9, rfl, hr9⟩
              have hbx4 := HBX.out.below hb4 HBX.out.lt
              have HBX4 := Hd.mk hbx4
              have HO4 := Hd.mk ((HO3.out.then_below hb4).alloc (.cells #[.int .i64 c9.b, .int .i64 c9.h, .int .i64 c9.r, .int .i64 c9.l] 36))
              have HB4 := Hd.mk (bstep (ex_alloc HB.out _) hb4)
              have HC4 : Hd (CnBlk (w4.alloc (.cells #[.int .i64 c9.b, .int .i64 c9.h, .int .i64 c9.r, .int .i64 c9.l] 36)) w4.heap.size c9) := ⟨heap_alloc_new w4 _⟩
              have hne : w4.heap.size ≠ wr.heap.size := by have := hbx4.lt; omega
              rw [Cn.v_eq]
              clear hb4
              by_cases he9 : e9 = 0
              · subst he9
                have hI2 := HSP.out c9 hr9
                have hx0 := hI2.c0
                have hx1 := hI2.c1
                have HI2 := Hd.mk hI2
                have HBX5 := Hd.mk (Blk.alloc hbx4 (.cells #[.int .i64 c9.b, .int .i64 c9.h, .int .i64 c9.r, .int .i64 c9.l] 36))
                obtain ⟨P0, P1, P2⟩ := cut_cells hbx4
                have PL := hbx4.lt
                clear hI2 hr9 HST HSP hbx4 y0 y1 y2
                go_wp2_with fail
                clear P0 P1 P2 PL
                refine (refIn_calls c9 tu _).mono ?_
                rintro e w5 ⟨rfl, hb5⟩
                have hbx5 := HBX5.out.below hb5 HBX5.out.lt
                have hc5 := HC4.out.below hb5 HC4.out.lt
                have HBX6 := Hd.mk hbx5
                obtain ⟨P0, P1, P2⟩ := cut_cells hbx5
                have PL := hbx5.lt
                have PF := hbx5.frozen
                have HO5 := Hd.mk (HO4.out.then_below hb5)
                have HB5 := Hd.mk (bstep (ex_alloc HB4.out _) hb5)
                obtain ⟨Q0, Q1, Q2, Q3⟩ := hc5.cells
                have QL := hc5.lt
                clear hb5 hbx5 hc5
                go_wp2_with fail
                clear P0 P1 P2 PL PF Q0 Q1 Q2 Q3 QL
                refine (refIn_calls c9 tu _).mono ?_
                rintro e w6 ⟨rfl, hb6⟩
                have hbx6 := (HBX6.out.set_ 1 (.int .i64 (c9.of tu - c.of tu))).below hb6 (HBX6.out.set_ 1 (.int .i64 (c9.of tu - c.of tu))).lt
                simp only [List.setIfInBounds_toArray, List.set_cons_zero, List.set_cons_succ] at hbx6
                obtain ⟨P0, P1, P2⟩ := cut_cells hbx6
                have PL := hbx6.lt
                have HO6 := Hd.mk ((HO5.out.setCell (p := ⟨wr.heap.size, 1, none⟩) (.inl rfl) (.int .i64 (c9.of tu - c.of tu))).then_below hb6)
                have HB6 := Hd.mk (bstep (HB5.out.setCell (p := ⟨wr.heap.size, 1, none⟩) hsz (.int .i64 (c9.of tu - c.of tu))) hb6)
                clear hb6 hbx6
                have HOW2 := Hd.mk (own_only HOW.out HO6.out (fun j e1 e2 => by have := (HOW.out.lt j e1).2; omega))
                have hk1 : k + 1 ≤ maxLen := by unfold maxLen; omega
                have hk2 : (k + 1) * 32 ≤ 140737488355328 := by omega
                have hk3 : w3.heap.size ≤ w6.heap.size := HB6.out.size
                go_wp2_with (at_builtin; refine append_lit' el_part #[.int .i64 0, .int .i64 (c9.of tu - c.of tu), .string ⟨#[]⟩] HOW2.out rfl rfl rfl rfl (by simp) rfl (one3 rfl rfl rfl) hk1 hk2 hk3 ?_; intro v9 w9 hown9 hbel9 hgr9 hnew9; obtain ⟨A9, k9, rfl⟩ := own_form hown9; have HO9 := Hd.mk hown9; have HB9 := Hd.mk hbel9; clear hown9 hbel9 hgr9 hnew9)
                exact ⟨⟨k + 1, c9, a + (d : Int), ol ++ [⟨0, c9.of tu - c.of tu, []⟩], by go_num, rfl, rfl, by rw [opv_append, opv_one]; exact HO9.out, HB6.out.trans HB9.out, by have h := HI2.out; rw [tnP_drop hd] at h; exact h⟩, by simp only [intOf]; omega⟩
              · have HE := Hd.mk (HST.out c9 e9 hr9 he9)
                clear hr9 HST HSP y0 y1 y2 hbx4
                go_wp2_with fail
                go_ret2
                exact ⟨bstep HB3.out (ex_alloc HB4.out _), _, [], e9, rfl, Sl.nil _ _, fun h => absurd ⟨HU.out, HT.out⟩ h, fun _ h => absurd (by rw [← HM.out]; exact HCK.out.symm) h, fun _ _ => ⟨HE.out.symm, by rw [if_neg he9]⟩⟩
            · have hd' : (0 : Int) < (d : Int) := by omega
              dsimp only at y0 y1 y2 hbd
              have hsz2 : a + ((d : Int) + 0) = a + (d : Int) := by omega
              rw [hsz2] at HST HSP hbd
              have HBX : Hd (Blk (wr.alloc (.cells #[.int .i64 (d : Int), .int .i64 0, .string ⟨#[]⟩] 111)) wr.heap.size 111 #[.int .i64 (d : Int), .int .i64 0, .string ⟨#[]⟩]) := ⟨Blk.new _ _ _⟩
              have HO3 := Hd.mk ((Only.refl (fun j => j = wr.heap.size) wr).alloc (.cells #[.int .i64 (d : Int), .int .i64 0, .string ⟨#[]⟩] 111))
              clear hsz2
              go_wp2_with fail
              refine (rahead_calls HA.out (by have := HBR.out; omega)).mono ?_
              rintro e w4 ⟨hb4, c9, e9, rfl, hr9⟩
              have hbx4 := HBX.out.below hb4 HBX.out.lt
              have HBX4 := Hd.mk hbx4
              have HO4 := Hd.mk ((HO3.out.then_below hb4).alloc (.cells #[.int .i64 c9.b, .int .i64 c9.h, .int .i64 c9.r, .int .i64 c9.l] 36))
              have HB4 := Hd.mk (bstep (ex_alloc HB.out _) hb4)
              have HC4 : Hd (CnBlk (w4.alloc (.cells #[.int .i64 c9.b, .int .i64 c9.h, .int .i64 c9.r, .int .i64 c9.l] 36)) w4.heap.size c9) := ⟨heap_alloc_new w4 _⟩
              have hne : w4.heap.size ≠ wr.heap.size := by have := hbx4.lt; omega
              rw [Cn.v_eq]
              clear hb4
              by_cases he9 : e9 = 0
              · subst he9
                have hI2 := HSP.out c9 hr9
                have hx0 := hI2.c0
                have hx1 := hI2.c1
                have HI2 := Hd.mk hI2
                have HBX5 := Hd.mk (Blk.alloc hbx4 (.cells #[.int .i64 c9.b, .int .i64 c9.h, .int .i64 c9.r, .int .i64 c9.l] 36))
                obtain ⟨P0, P1, P2⟩ := cut_cells hbx4
                have PL := hbx4.lt
                clear hI2 hr9 HST HSP hbx4 y0 y1 y2
                go_wp2_with fail
                clear P0 P1 P2 PL
                refine (refIn_calls c9 tu _).mono ?_
                rintro e w5 ⟨rfl, hb5⟩
                have hbx5 := HBX5.out.below hb5 HBX5.out.lt
                have hc5 := HC4.out.below hb5 HC4.out.lt
                have HBX6 := Hd.mk hbx5
                obtain ⟨P0, P1, P2⟩ := cut_cells hbx5
                have PL := hbx5.lt
                have PF := hbx5.frozen
                have HO5 := Hd.mk (HO4.out.then_below hb5)
                have HB5 := Hd.mk (bstep (ex_alloc HB4.out _) hb5)
                obtain ⟨Q0, Q1, Q2, Q3⟩ := hc5.cells
                have QL := hc5.lt
                clear hb5 hbx5 hc5
                go_wp2_with fail
                clear P0 P1 P2 PL PF Q0 Q1 Q2 Q3 QL
                refine (refIn_calls c9 tu _).mono ?_
                rintro e w6 ⟨rfl, hb6⟩
                have hbx6 := (HBX6.out.set_ 0 (.int .i64 (c9.of tu - c.of tu))).below hb6 (HBX6.out.set_ 0 (.int .i64 (c9.of tu - c.of tu))).lt
                simp only [List.setIfInBounds_toArray, List.set_cons_zero] at hbx6
                obtain ⟨P0, P1, P2⟩ := cut_cells hbx6
                have PL := hbx6.lt
                have HO6 := Hd.mk ((HO5.out.setCell (p := ⟨wr.heap.size, 0, none⟩) (.inl rfl) (.int .i64 (c9.of tu - c.of tu))).then_below hb6)
                have HB6 := Hd.mk (bstep (HB5.out.setCell (p := ⟨wr.heap.size, 0, none⟩) hsz (.int .i64 (c9.of tu - c.of tu))) hb6)
                clear hb6 hbx6
                have HOW2 := Hd.mk (own_only HOW.out HO6.out (fun j e1 e2 => by have := (HOW.out.lt j e1).2; omega))
                have hk1 : k + 1 ≤ maxLen := by unfold maxLen; omega
                have hk2 : (k + 1) * 32 ≤ 140737488355328 := by omega
                have hk3 : w3.heap.size ≤ w6.heap.size := HB6.out.size
                go_wp2_with (at_builtin; refine append_lit' el_part #[.int .i64 (c9.of tu - c.of tu), .int .i64 0, .string ⟨#[]⟩] HOW2.out rfl rfl rfl rfl (by simp) rfl (one3 rfl rfl rfl) hk1 hk2 hk3 ?_; intro v9 w9 hown9 hbel9 hgr9 hnew9; obtain ⟨A9, k9, rfl⟩ := own_form hown9; have HO9 := Hd.mk hown9; have HB9 := Hd.mk hbel9; clear hown9 hbel9 hgr9 hnew9)
                exact ⟨⟨k + 1, c9, a + (d : Int), ol ++ [⟨c9.of tu - c.of tu, 0, []⟩], by go_num, rfl, rfl, by rw [opv_append, opv_one]; exact HO9.out, HB6.out.trans HB9.out, by have h := HI2.out; rw [tnP_keep hd] at h; exact h⟩, by simp only [intOf]; omega⟩
              · have HE := Hd.mk (HST.out c9 e9 hr9 he9)
                clear hr9 HST HSP y0 y1 y2 hbx4
                go_wp2_with fail
                go_ret2
                exact ⟨bstep HB3.out (ex_alloc HB4.out _), _, [], e9, rfl, Sl.nil _ _, fun h => absurd ⟨HU.out, HT.out⟩ h, fun _ h => absurd (by rw [← HM.out]; exact HCK.out.symm) h, fun _ _ => ⟨HE.out.symm, by rw [if_neg he9]⟩⟩
          · obtain rfl : k = n := by omega
            have HF := Hd.mk (hI.finish HLN.out.symm)
            have HLO := Hd.mk hI.len
            have HS9 := Hd.mk (Sl.of_own hown)
            clear hown hbel hI hkle
            go_wp2_with fail
            go_ret2
            exact ⟨bstep HB3.out HB.out, _, ol, 0, rfl, by rw [HLO.out]; exact HS9.out, fun h => absurd ⟨HU.out, HT.out⟩ h, fun _ h => absurd (by rw [← HM.out]; exact HCK.out.symm) h, fun _ _ => ⟨HF.out.2.symm, by rw [if_pos rfl]; exact HF.out.1.symm⟩⟩
      · go_enter Tryd.func34, Tryd.ntmps34
        go_wp2_with (first
          | (go_at_call_of 87 (Value.int .i64 u); refine (inT HU.out _).mono ?_; rintro e w3 ⟨rfl, rfl⟩)
          | (go_at_call_of 87 (Value.int .i64 tu); refine (inT HT.out _).mono ?_; rintro e w3 ⟨rfl, rfl⟩)
          | (go_at_call 18; refine (HC _).out.mono ?_; rintro e w1 ⟨hb1, he, -⟩; obtain rfl := he rfl; have HB1 := Hd.mk hb1; clear hb1 he; unfold fltV)
          | (go_at_call 38; refine (refIn_calls (cnt R) u _).mono ?_; rintro e w2 ⟨rfl, hb2⟩; rw [← HM.out]; have HB2 := Hd.mk (bstep (ex_alloc (ex_alloc HB1.out _) _) hb2); clear hb2)
          | (go_at_call 77; refine (rcheck_calls (HSL.out.below HB2.out) HP.out (by omega)).mono ?_; rintro e w3 ⟨rfl, hb3⟩; rw [← HCK.out]; have HB3 := Hd.mk (bstep HB2.out hb3); clear hb3))
        go_ret2
        exact ⟨HB3.out, _, [], ck, rfl, Sl.nil _ _, fun h => absurd ⟨HU.out, HT.out⟩ h, fun _ _ => ⟨rfl, by rw [← HM.out]; exact HCK.out⟩, fun _ h => absurd (by rw [HCK.out, HM.out]; exact h) h0⟩
    · have HU := Hd.mk hu
      have HT := Hd.mk ht
      clear hu ht
      go_enter Tryd.func34, Tryd.ntmps34
      go_wp2_with (first
        | (go_at_call_of 87 (Value.int .i64 u); refine (inT HU.out _).mono ?_; rintro e w3 ⟨rfl, rfl⟩)
        | (go_at_call_of 87 (Value.int .i64 tu); refine (inF HT.out _).mono ?_; rintro e w3 ⟨rfl, rfl⟩))
      go_ret2
      exact ⟨Below.refl _ _, _, [], 1, rfl, Sl.nil _ _, fun _ => ⟨rfl, rfl⟩, fun h => absurd h.2 HT.out, fun h => absurd h.2 HT.out⟩
  · have HU := Hd.mk hu
    clear hu
    go_enter Tryd.func34, Tryd.ntmps34
    go_wp2_with (go_at_call 87; refine (inF HU.out _).mono ?_; rintro e w3 ⟨rfl, rfl⟩)
    go_ret2
    exact ⟨Below.refl _ _, _, [], 1, rfl, Sl.nil _ _, fun _ => ⟨rfl, rfl⟩, fun h => absurd h.1 HU.out, fun h => absurd h.1 HU.out⟩
end
end Go.Proofs.YtgokmldngnmmhaaDoor
