/- Several texts of the proof, one behind the other: ApA, ApI. -/
import Derived.Test.YtgokmldngnmmhaaDoorMShapePlays41
import Derived.Test.YtgokmldngnmmhaaDoorMShapePlays4
/- Apply of both. -/
namespace Go.Proofs.YtgokmldngnmmhaaDoor
open Go.RowKit
set_option maxRecDepth 100000
theorem ext_mid (s : U.Bs) (a x : Nat) : (ByteArray.mk s.toArray).extract a (a + x) = ⟨((s.drop a).take x).toArray⟩ := by
  apply ByteArray.ext
  simp [ByteArray.extract, ByteArray.copySlice]
section
attribute [local go_sem] add_mk str_append
set_option maxHeartbeats 8000000 in
theorem rapply_calls {l : List PT} {v : Value} {n : Nat} {s : U.Bs} {w : World} (hsl : Sl w 3 v n (opv l)) (hp : ∀ p ∈ l, p.put.length ≤ 35184372087808) (hpl : plen l ≤ 1099511627776) (hs : s.length ≤ 1000000) :
    Calls Tryd.prog 26 #[v, .string ⟨s.toArray⟩] w fun e w' => e = .returned (.tuple #[.string ⟨(apr l s).toArray⟩, .int .i64 (apc l s)]) ∧ Below w.heap.size w w' := by
  have hln : l.length = n := by have := hsl.len; rw [opv_length] at this; omega
  have hle := hsl.le
  unfold maxLen at hle
  have HSL := Hd.mk hsl
  have HP := Hd.mk hp
  obtain ⟨A, c, rfl, -⟩ := hsl
  clear hp
  go_enter Tryd.func26, Tryd.ntmps26
  go_wp2_with fail
  refine (rcheck_calls HSL.out HP.out (by omega)).mono ?_
  rintro e w1 ⟨rfl, hb1⟩
  have HB1 := Hd.mk hb1
  clear hb1
  by_cases h0 : chk l s.length = 0
  · obtain ⟨hg, hwn⟩ := chk_was h0
    have HARG : Hd (∀ p ∈ l, p.arg) := ⟨fun p hp => (hg p hp).1⟩
    have HWN := Hd.mk hwn
    have HC : Hd (apc l s = if aok s 0 l = true then 0 else 10) := ⟨by unfold apc; rw [if_pos h0]⟩
    rw [h0]
    clear h0 hg hwn
    go_wp2_with fail
    go_loopw [7, 8, 20] (fun out at_ i wr => ∃ k a : Nat, k ≤ n ∧ i = .int .i64 k ∧ at_ = .int .i64 a ∧ out = .string ⟨(aout s 0 (l.take k)).toArray⟩ ∧ wasN (l.take k) = a ∧ aok s 0 (l.take k) = true ∧ Below w.heap.size w wr) (fun _ _ i _ => n - (intOf i).toNat)
    case atStart => exact ⟨0, 0, by omega, rfl, rfl, rfl, rfl, rfl, HB1.out⟩
    case round =>
      obtain ⟨k, a, hk, rfl, rfl, rfl, hwa, hok, hbel⟩ := hrel
      have HB := Hd.mk hbel
      by_cases hkn : k < n
      · obtain ⟨b, o, c', hv, hlt, c0, c1, c2⟩ := (HSL.out.below hbel).part hkn (by omega)
        cases hv
        have hw1 : wasN (l.take (k + 1)) ≤ s.length := by
          have h1 := HWN.out
          have h2 : wasN l = wasN (l.take (k + 1)) + wasN (l.drop (k + 1)) := by
            rw [← wasN_append, List.take_append_drop]
          omega
        rw [List.take_succ_eq_append_getElem (by omega), wasN_append] at hw1
        have hs1 : wasN [l[k]] = l[k].ext := by simp [wasN]
        rw [hs1, hwa] at hw1
        have hmem := List.getElem_mem (h := (by omega : k < l.length))
        have harg := HARG.out _ hmem
        have hpl1 : l[k].put.length ≤ plen l := by
          have h1 := plen_take l (k + 1)
          rw [List.take_succ_eq_append_getElem (by omega), plen_append] at h1
          simp only [plen] at h1
          omega
        have HNOT := Hd.mk (aok_not (s := s) (l := l) (k := k) (by omega))
        have HSN1 : Hd (aout s 0 (l.take (k + 1)) = aout s 0 (l.take k) ++ ((s.drop a).take l[k].keep.toNat ++ l[k].put)) := ⟨by
          rw [List.take_succ_eq_append_getElem (by omega), aout_snoc, Nat.zero_add, hwa]⟩
        have HSN2 : Hd (aok s 0 (l.take (k + 1)) = (aok s 0 (l.take k) && (edg s a && edg s (a + l[k].ext)))) := ⟨by
          rw [List.take_succ_eq_append_getElem (by omega), aok_snoc, Nat.zero_add, hwa]⟩
        have HSN3 : Hd (wasN (l.take (k + 1)) = a + l[k].ext) := ⟨by
          rw [List.take_succ_eq_append_getElem (by omega), wasN_append, hs1, hwa]⟩
        rw [hwa] at HNOT
        have hol := aout_len s 0 (l.take k)
        rw [hwa] at hol
        have hpt := plen_take l k
        generalize l[k] = p at *
        obtain ⟨x, y, z⟩ := p
        obtain ⟨_, hx, hy⟩ := harg
        obtain ⟨x, rfl⟩ := Int.eq_ofNat_of_zero_le hx
        obtain ⟨y, rfl⟩ := Int.eq_ofNat_of_zero_le hy
        have hext : (⟨(x : Int), (y : Int), z⟩ : PT).ext = x + y := by unfold PT.ext; simp
        rw [hext] at hw1 HNOT HSN2 HSN3
        rw [Int.toNat_natCast] at HSN1
        dsimp only at c0 c1 c2 hpl1 HSN1
        have HOK := Hd.mk hok
        have HWA := Hd.mk hwa
        clear hx hy hmem hs1 hext hok hwa
        clear hbel
        generalize aout s 0 (l.take k) = out at *
        have e0 := ext_mid s a x
        cases he1 : edg s a
        · have HF : Hd (apc l s = 10) := ⟨by rw [HC.out, HNOT.out (by rw [he1]; rfl)]; rfl⟩
          have HR : Hd (apr l s = []) := ⟨by unfold apr; rw [if_neg (by rw [HF.out]; decide)]⟩
          have HE := Hd.mk he1
          clear he1
          go_wp2_with fail
          refine (redge_calls s a _ (by omega)).mono ?_
          rintro e w2 ⟨rfl, rfl⟩
          rw [HE.out]
          go_wp2_with fail
          go_ret2
          exact ⟨by rw [HR.out, HF.out] <;> rfl, by first | exact ex_alloc HB.out _ | exact ex_drew (ex_alloc HB.out _)⟩
        · cases he2 : edg s (a + (x + y))
          · have HF : Hd (apc l s = 10) := ⟨by rw [HC.out, HNOT.out (by rw [he1, he2]; rfl)]; rfl⟩
            have HR : Hd (apr l s = []) := ⟨by unfold apr; rw [if_neg (by rw [HF.out]; decide)]⟩
            have HE := Hd.mk he1
            have HE2 := Hd.mk he2
            clear he1 he2
            go_wp2_with fail
            refine (redge_calls s a _ (by omega)).mono ?_
            rintro e w2 ⟨rfl, rfl⟩
            rw [HE.out]
            go_wp2_with fail
            rw [show ((a : Int) + x + y) = ((a + (x + y) : Nat) : Int) from by omega]
            refine (redge_calls s (a + (x + y)) _ (by omega)).mono ?_
            rintro e w2 ⟨rfl, rfl⟩
            rw [HE2.out]
            go_wp2_with fail
            go_ret2
            exact ⟨by rw [HR.out, HF.out] <;> rfl, by first | exact ex_alloc HB.out _ | exact ex_drew (ex_alloc HB.out _)⟩
          · have HOK2 : Hd (aok s 0 (l.take (k + 1)) = true) := ⟨by rw [HSN2.out, HOK.out, he1, he2]; rfl⟩
            have HE := Hd.mk he1
            have HE2 := Hd.mk he2
            clear he1 he2
            go_wp2_with fail
            refine (redge_calls s a _ (by omega)).mono ?_
            rintro e w2 ⟨rfl, rfl⟩
            rw [HE.out]
            go_wp2_with fail
            rw [show ((a : Int) + x + y) = ((a + (x + y) : Nat) : Int) from by omega]
            refine (redge_calls s (a + (x + y)) _ (by omega)).mono ?_
            rintro e w2 ⟨rfl, rfl⟩
            rw [HE2.out]
            go_wp2_with fail
            go_quiet (fail)
            go_wp2_with fail
            exact ⟨⟨k + 1, a + (x + y), by omega, by go_num, by go_num, by rw [HSN1.out] <;> rfl, HSN3.out, HOK2.out, by repeat (first | exact HB.out | apply ex_drewN | apply ex_drew | apply ex_alloc)⟩, by simp only [intOf]; omega⟩
      · obtain rfl : k = n := by omega
        rw [show l.take k = l from by rw [← hln, List.take_length]] at hok ⊢
        have HF : Hd (apc l s = 0) := ⟨by rw [HC.out, hok]; rfl⟩
        have HR : Hd (apr l s = aout s 0 l) := ⟨by unfold apr; rw [if_pos HF.out]⟩
        clear hok hwa hbel
        generalize aout s 0 l = out at *
        go_wp2_with fail
        go_ret2
        exact ⟨by rw [HR.out, HF.out] <;> rfl, HB.out⟩
  · have HF : Hd (apc l s = chk l s.length) := ⟨by unfold apc; rw [if_neg h0]⟩
    have HR : Hd (apr l s = []) := ⟨by unfold apr; rw [HF.out, if_neg h0]⟩
    have h0' : (chk l s.length == 0) = false := by rw [beq_eq_false_iff_ne]; exact h0
    clear h0
    generalize chk l s.length = zz at *
    go_wp2_with fail
    go_ret2
    exact ⟨by rw [HR.out, HF.out] <;> rfl, HB1.out⟩
/-- A part in its variable, beside the builder. -/
theorem blk_kept {w w' : World} {g b : Nat} {cs : Array Value} (h : Blk w g 111 cs) (hk : Lib.OthersKept 5 (some b) w w') (hg : g ≠ b) : Blk w' g 111 cs :=
  hk g _ h (fun e => hg (Option.some.inj e)) (fun c fz e => by cases e)
set_option maxHeartbeats 8000000 in
theorem oapply_calls {l : List PT} {v : Value} {n : Nat} {s : U.Bs} {w : World} (hgl : Hdl w) (hsl : Sl w 3 v n (opv l)) (hp : ∀ p ∈ l, p.put.length ≤ 35184372087808) (hpl : plen l ≤ 1099511627776) (hs : s.length ≤ 1000000) :
    Calls Tryd.prog 27 #[v, .string ⟨s.toArray⟩] w fun e w' => e = .returned (.tuple #[.string ⟨(apr l s).toArray⟩, errOf (apc l s)]) ∧ Below w.heap.size w w' := by
  have hln : l.length = n := by have := hsl.len; rw [opv_length] at this; omega
  have hle := hsl.le
  unfold maxLen at hle
  have HSL := Hd.mk hsl
  have HP := Hd.mk hp
  have HGL := Hd.mk hgl
  obtain ⟨A, c, rfl, -⟩ := hsl
  clear hp hgl
  go_enter Tryd.func27, Tryd.ntmps27
  go_wp2_with fail
  refine (ocheck_calls HGL.out HSL.out HP.out (by omega)).mono ?_
  rintro e w1 ⟨⟨ev, rfl, -, rfl⟩, hb1⟩
  have HB1 := Hd.mk hb1
  clear hb1
  by_cases h0 : chk l s.length = 0
  · obtain ⟨hg, hwn⟩ := chk_was h0
    have HARG : Hd (∀ p ∈ l, p.arg) := ⟨fun p hp => (hg p hp).1⟩
    have HWN := Hd.mk hwn
    have HC : Hd (apc l s = if aok s 0 l = true then 0 else 10) := ⟨by unfold apc; rw [if_pos h0]⟩
    rw [h0, errOf_zero]
    clear h0 hg hwn
    have HBN := Hd.mk (bnew w1)
    go_wp2_with fail
    go_loopw [8, 20] (fun at_ i wr => ∃ k a : Nat, k ≤ n ∧ i = .int .i64 k ∧ at_ = .int .i64 a ∧ wasN (l.take k) = a ∧ aok s 0 (l.take k) = true ∧ Lib.IsBuilderF 141 5 w1.heap.size w1.heap.size (Lib.byteCells (aout s 0 (l.take k))) wr ∧ Below w1.heap.size w1 wr) (fun _ i _ => n - (intOf i).toNat)
    case atStart => exact ⟨0, 0, by omega, rfl, rfl, rfl, rfl, HBN.out, ex_alloc (Below.refl _ _) _⟩
    case round =>
      obtain ⟨k, a, hk, rfl, rfl, hwa, hok, hbd, hbel⟩ := hrel
      have HB := Hd.mk hbel
      have HBD := Hd.mk hbd
      have hsz := hbel.size
      by_cases hkn : k < n
      · obtain ⟨b, o, c', hv, hlt, c0, c1, c2⟩ := (HSL.out.below (bstep HB1.out hbel)).part hkn (by omega)
        cases hv
        have hw1 : wasN (l.take (k + 1)) ≤ s.length := by
          have h1 := HWN.out
          have h2 : wasN l = wasN (l.take (k + 1)) + wasN (l.drop (k + 1)) := by
            rw [← wasN_append, List.take_append_drop]
          omega
        rw [List.take_succ_eq_append_getElem (by omega), wasN_append] at hw1
        have hs1 : wasN [l[k]] = l[k].ext := by simp [wasN]
        rw [hs1, hwa] at hw1
        have hmem := List.getElem_mem (h := (by omega : k < l.length))
        have harg := HARG.out _ hmem
        have hpl1 : l[k].put.length ≤ plen l := by
          have h1 := plen_take l (k + 1)
          rw [List.take_succ_eq_append_getElem (by omega), plen_append] at h1
          simp only [plen] at h1
          omega
        have HNOT := Hd.mk (aok_not (s := s) (l := l) (k := k) (by omega))
        have HSN1 : Hd (aout s 0 (l.take (k + 1)) = aout s 0 (l.take k) ++ ((s.drop a).take l[k].keep.toNat ++ l[k].put)) := ⟨by
          rw [List.take_succ_eq_append_getElem (by omega), aout_snoc, Nat.zero_add, hwa]⟩
        have HSN2 : Hd (aok s 0 (l.take (k + 1)) = (aok s 0 (l.take k) && (edg s a && edg s (a + l[k].ext)))) := ⟨by
          rw [List.take_succ_eq_append_getElem (by omega), aok_snoc, Nat.zero_add, hwa]⟩
        have HSN3 : Hd (wasN (l.take (k + 1)) = a + l[k].ext) := ⟨by
          rw [List.take_succ_eq_append_getElem (by omega), wasN_append, hs1, hwa]⟩
        rw [hwa] at HNOT
        have hol := aout_len s 0 (l.take k)
        rw [hwa] at hol
        have hpt := plen_take l k
        generalize l[k] = p at *
        obtain ⟨x, y, z⟩ := p
        obtain ⟨_, hx, hy⟩ := harg
        obtain ⟨x, rfl⟩ := Int.eq_ofNat_of_zero_le hx
        obtain ⟨y, rfl⟩ := Int.eq_ofNat_of_zero_le hy
        have hext : (⟨(x : Int), (y : Int), z⟩ : PT).ext = x + y := by unfold PT.ext; simp
        rw [hext] at hw1 HNOT HSN2 HSN3
        rw [Int.toNat_natCast] at HSN1
        dsimp only at c0 c1 c2 hpl1 HSN1
        have HOK := Hd.mk hok
        have HWA := Hd.mk hwa
        clear hx hy hmem hs1 hext hok hwa
        have hbs : w1.heap.size < wr.heap.size := by
          rcases hbd with h | h
          · exact h.lt
          · exact h.lt
        clear hbel hbd
        generalize aout s 0 (l.take k) = out at *
        have e0 := ext_mid s a x
        cases he1 : edg s a
        · have HF : Hd (apc l s = 10) := ⟨by rw [HC.out, HNOT.out (by rw [he1]; rfl)]; rfl⟩
          have HR : Hd (apr l s = []) := ⟨by unfold apr; rw [if_neg (by rw [HF.out]; decide)]⟩
          have HE := Hd.mk he1
          clear he1
          go_wp2_with fail
          refine (oedge_calls s a _ (by omega)).mono ?_
          rintro e w2 ⟨rfl, rfl⟩
          rw [HE.out]
          go_wp2_with fail
          go_ret2
          exact ⟨by rw [HR.out, HF.out] <;> rfl, ex_alloc (bstep HB1.out HB.out) _⟩
        · cases he2 : edg s (a + (x + y))
          · have HF : Hd (apc l s = 10) := ⟨by rw [HC.out, HNOT.out (by rw [he1, he2]; rfl)]; rfl⟩
            have HR : Hd (apr l s = []) := ⟨by unfold apr; rw [if_neg (by rw [HF.out]; decide)]⟩
            have HE := Hd.mk he1
            have HE2 := Hd.mk he2
            clear he1 he2
            go_wp2_with fail
            refine (oedge_calls s a _ (by omega)).mono ?_
            rintro e w2 ⟨rfl, rfl⟩
            rw [HE.out]
            go_wp2_with fail
            rw [show ((a : Int) + x + y) = ((a + (x + y) : Nat) : Int) from by omega]
            refine (oedge_calls s (a + (x + y)) _ (by omega)).mono ?_
            rintro e w2 ⟨rfl, rfl⟩
            rw [HE2.out]
            go_wp2_with fail
            go_ret2
            exact ⟨by rw [HR.out, HF.out] <;> rfl, ex_alloc (bstep HB1.out HB.out) _⟩
          · have HOK2 : Hd (aok s 0 (l.take (k + 1)) = true) := ⟨by rw [HSN2.out, HOK.out, he1, he2]; rfl⟩
            have HE := Hd.mk he1
            have HE2 := Hd.mk he2
            clear he1 he2
            go_wp2_with fail
            refine (oedge_calls s a _ (by omega)).mono ?_
            rintro e w2 ⟨rfl, rfl⟩
            rw [HE.out]
            go_wp2_with fail
            rw [show ((a : Int) + x + y) = ((a + (x + y) : Nat) : Int) from by omega]
            refine (oedge_calls s (a + (x + y)) _ (by omega)).mono ?_
            rintro e w2 ⟨rfl, rfl⟩
            rw [HE2.out]
            go_wp2_with fail
            have HPB : Hd (Blk ((wr.alloc (.cells #[.int .i64 x, .int .i64 y, .string ⟨z.toArray⟩] 111)).drew) wr.heap.size 111 #[.int .i64 x, .int .i64 y, .string ⟨z.toArray⟩]) := ⟨Blk.new wr _ _⟩
            have HBDd : Hd (Lib.IsBuilderF 141 5 w1.heap.size w1.heap.size (Lib.byteCells out) ((wr.alloc (.cells #[.int .i64 x, .int .i64 y, .string ⟨z.toArray⟩] 111)).drew)) := ⟨HBD.out.alloc _⟩
            have HSZ : Hd (w1.heap.size ≤ ((wr.alloc (.cells #[.int .i64 x, .int .i64 y, .string ⟨z.toArray⟩] 111)).drew).heap.size) := ⟨by
              show w1.heap.size ≤ (wr.alloc _).heap.size
              rw [World.size_alloc]; omega⟩
            have HLN : Hd ((Lib.byteCells out).length + (ByteArray.mk ((s.drop a).take x ++ z).toArray).size ≤ 140737488355328) := ⟨by
              rw [Lib.byteCells_length]
              simp only [ByteArray.size, List.size_toArray, List.length_append, List.length_take, List.length_drop]
              omega⟩
            have i1 : (a : Int) + x ≤ s.length := by omega
            have i2 : (a : Int) ≤ (a : Int) + x := by omega
            have i3 : (0 : Int) ≤ a := by omega
            have i4 : (0 : Int) ≤ (a : Int) + x := by omega
            have i5 : (a : Int) ≤ s.length := by omega
            have i6 : IntKind.i64.wrap ((a : Int) + x) = (a : Int) + x := by rw [IntKind.wrap_i64]; omega
            go_region_with (go_at_call 81; refine (bwrite_calls w1.heap.size w1.heap.size (Lib.byteCells out) ⟨((s.drop a).take x ++ z).toArray⟩ _ HBDd.out HLN.out HSZ.out).mono ?_; rintro e w3 ⟨rfl, hb3, hbel3, hok3⟩; have HPC := Hd.mk (blk_kept HPB.out hok3 (by omega)); have q0 := HPC.out.cell 0; have q1 := HPC.out.cell 1; simp only [List.getElem?_toArray, List.getElem?_cons_zero, List.getElem?_cons_succ] at q0 q1; have HBD3 := Hd.mk hb3; have HBE3 := Hd.mk hbel3; clear hb3 hbel3 hok3)
            all_goals
              go_wp2_with fail
              exact ⟨⟨k + 1, a + (x + y), by omega, by go_num, by go_num, HSN3.out, HOK2.out, by rw [HSN1.out, Lib.byteCells_append, ← bcells ((s.drop a).take x ++ z)]; exact .inr HBD3.out, (ex_drew (ex_alloc HB.out _)).trans HBE3.out⟩, by simp only [intOf]; omega⟩
      · obtain rfl : k = n := by omega
        rw [show l.take k = l from by rw [← hln, List.take_length]] at hok HBD
        have HF : Hd (apc l s = 0) := ⟨by rw [HC.out, hok]; rfl⟩
        have HR : Hd (apr l s = aout s 0 l) := ⟨by unfold apr; rw [if_pos HF.out]⟩
        clear hok hwa hbel hbd
        generalize aout s 0 l = out at *
        go_wp2_with fail
        refine (bstring_calls w1.heap.size w1.heap.size out _ HBD.out hsz).mono ?_
        rintro e w3 ⟨rfl, -, hbel3, -⟩
        have HB3 := Hd.mk ((bstep HB1.out HB.out).trans (hbel3.mono HB1.out.size))
        clear hbel3
        go_wp2_with fail
        go_ret2
        exact ⟨by rw [HR.out, HF.out, errOf_zero] <;> rfl, HB3.out⟩
  · have HF : Hd (apc l s = chk l s.length) := ⟨by unfold apc; rw [if_neg h0]⟩
    have HR : Hd (apr l s = []) := ⟨by unfold apr; rw [HF.out, if_neg h0]⟩
    rw [errOf_ne h0]
    have H0 := Hd.mk h0
    clear h0
    generalize chk l s.length = zz at *
    go_wp2_with fail
    go_ret2
    exact ⟨by rw [HR.out, HF.out, errOf_ne H0.out] <;> rfl, HB1.out⟩
end
end Go.Proofs.YtgokmldngnmmhaaDoor
/- Invert of both. -/
namespace Go.Proofs.YtgokmldngnmmhaaDoor
open Go.RowKit
set_option maxRecDepth 100000
section
attribute [local go_sem] add_mk str_append
set_option maxHeartbeats 8000000 in
theorem oinv_calls {l : List PT} {v : Value} {n : Nat} {s : U.Bs} {w : World} (hgl : Hdl w) (hsl : Sl w 3 v n (opv l)) (hp : ∀ p ∈ l, p.put.length ≤ 35184372087808) (hpl : plen l ≤ 34359738368) (hs : s.length ≤ 1000000) (hn : n ≤ 1000000) :
    Calls Tryd.prog 29 #[v, .string ⟨s.toArray⟩] w (TrRes (apc l s) (expand (inv s 0 l)) w) := by
  have hln : l.length = n := by have := hsl.len; rw [opv_length] at this; omega
  have HSL := Hd.mk hsl
  have HP := Hd.mk hp
  have HGL := Hd.mk hgl
  obtain ⟨A, c, rfl, -⟩ := hsl
  clear hp hgl
  go_enter Tryd.func29, Tryd.ntmps29
  go_wp2_with fail
  refine (oapply_calls HGL.out HSL.out HP.out (by omega) hs).mono ?_
  rintro e w1 ⟨rfl, hb1⟩
  have HB1 := Hd.mk hb1
  clear hb1
  by_cases h0 : apc l s = 0
  · have hck : chk l s.length = 0 := by
      by_cases h : chk l s.length = 0
      · exact h
      · unfold apc at h0; rw [if_neg h] at h0; exact absurd h0 h
    obtain ⟨hg, hwn⟩ := chk_was hck
    have HARG : Hd (∀ p ∈ l, p.arg) := ⟨fun p hp => (hg p hp).1⟩
    have HWN := Hd.mk hwn
    have H0 := Hd.mk h0
    generalize apr l s = ap at *
    rw [h0, errOf_zero]
    clear h0 hg hwn hck
    go_wp2_with fail

    go_loopw [8, 9, 23] (fun out at_ i wr => ∃ k a : Nat, k ≤ n ∧ i = .int .i64 k ∧ at_ = .int .i64 a ∧ wasN (l.take k) = a ∧ wr.ownsRow w1.heap.size 111 3 out (inv s 0 (l.take k)).length (opv (inv s 0 (l.take k))) ∧ Below w1.heap.size w1 wr) (fun _ _ i _ => n - (intOf i).toNat)
    case atStart => exact ⟨0, 0, by omega, rfl, rfl, rfl, World.ownsRow_nil _ _ _ _, Below.refl _ _⟩
    case round =>
      obtain ⟨k, a, hk, rfl, rfl, hwa, hown, hbel⟩ := hrel
      have HB := Hd.mk hbel
      have HOW := Hd.mk hown
      have hil := inv_len s 0 (l.take k)
      rw [List.length_take] at hil
      have HIL : Hd ((inv s 0 (l.take k)).length ≤ 1000000) := ⟨by omega⟩
      clear hil
      obtain ⟨Ao, co, rfl⟩ := own_form hown
      have hsz := hbel.size
      by_cases hkn : k < n
      · obtain ⟨b, o, c', hv, hlt, c0, c1, c2⟩ := (HSL.out.below (bstep HB1.out hbel)).part hkn (by omega)
        cases hv
        have hw1 : wasN (l.take (k + 1)) ≤ s.length := by
          have h1 := HWN.out
          have h2 : wasN l = wasN (l.take (k + 1)) + wasN (l.drop (k + 1)) := by
            rw [← wasN_append, List.take_append_drop]
          omega
        rw [List.take_succ_eq_append_getElem (by omega), wasN_append] at hw1
        have hs1 : wasN [l[k]] = l[k].ext := by simp [wasN]
        rw [hs1, hwa] at hw1
        have harg := HARG.out _ (List.getElem_mem (h := (by omega : k < l.length)))
        have hpl1 : l[k].put.length ≤ plen l := by
          have h1 := plen_take l (k + 1)
          rw [List.take_succ_eq_append_getElem (by omega), plen_append] at h1
          simp only [plen] at h1
          omega
        have HSN1 : Hd (inv s 0 (l.take (k + 1)) = inv s 0 (l.take k) ++ [invp s a l[k]]) := ⟨by
          rw [List.take_succ_eq_append_getElem (by omega), inv_snoc, Nat.zero_add, hwa]⟩
        have HSN3 : Hd (wasN (l.take (k + 1)) = a + l[k].ext) := ⟨by
          rw [List.take_succ_eq_append_getElem (by omega), wasN_append, hs1, hwa]⟩
        have HL1 : Hd ((inv s 0 (l.take k)).length + 1 ≤ maxLen) := ⟨by have := HIL.out; unfold maxLen; omega⟩
        have HL2 : Hd (((inv s 0 (l.take k)).length + 1) * 32 ≤ 140737488355328) := ⟨by have := HIL.out; omega⟩
        have HL3 : Hd (w1.heap.size ≤ (wr.alloc (.cells #[.int .i64 l[k].keep, .int .i64 l[k].drop, .string ⟨l[k].put.toArray⟩] 111)).heap.size) := ⟨by rw [World.size_alloc]; omega⟩
        generalize l[k] = p at *
        have HWA := Hd.mk hwa
        clear hown hbel hwa hs1
        rcases harg.cases with ⟨q, hq, rfl⟩ | ⟨m, hm, rfl⟩ | ⟨m, hm, rfl⟩
        · have hq' : (q == []) = false := by rw [beq_eq_false_iff_ne]; exact hq
          dsimp only at c0 c1 c2 hpl1 hw1
          simp only [PT.ext, Int.toNat_zero, Nat.add_zero] at hw1
          clear harg
          have HPB := Hd.mk (Blk.new wr 111 #[.int .i64 0, .int .i64 0, .string ⟨q.toArray⟩])
          have HIV : Hd (inv s 0 (l.take (k + 1)) = inv s 0 (l.take k) ++ [⟨0, q.length, []⟩]) := ⟨by rw [HSN1.out]; simp only [invp]; rw [if_pos hq]⟩
          have HEX : Hd (wasN (l.take (k + 1)) = a + 0) := ⟨by rw [HSN3.out]; simp [PT.ext]⟩
          generalize inv s 0 (l.take k) = L at *
          go_wp2_with (at_builtin; refine append_lit' el_part #[.int .i64 0, .int .i64 (q.length : Int), .string ⟨#[]⟩] (HOW.out.alloc _) rfl rfl rfl rfl (by simp) rfl (one3 rfl rfl rfl) HL1.out HL2.out HL3.out ?_; intro v9 w9 hown9 hbel9 hgr9 hnew9; obtain ⟨A9, k9, rfl⟩ := own_form hown9; have hpb9 := HPB.out.only (Only.of_grown hgr9) (fun e => by have := (HOW.out.lt _ e.symm).2; omega); have P0 := hpb9.cell 0; have P1 := hpb9.cell 1; have P2 := hpb9.cell 2; simp only [List.getElem?_toArray, List.getElem?_cons_zero, List.getElem?_cons_succ] at P0 P1 P2; have HO9 := Hd.mk hown9; have HB9 := Hd.mk hbel9; clear hown9 hbel9 hgr9 hnew9 hpb9)
          exact ⟨⟨k + 1, a + 0, by omega, by go_num, by go_num, HEX.out, by rw [HIV.out, opv_append, opv_one, List.length_append]; exact HO9.out, (ex_alloc HB.out _).trans HB9.out⟩, by simp only [intOf]; omega⟩
        · dsimp only at c0 c1 c2 hpl1 hw1
          simp only [PT.ext, Int.toNat_zero, Nat.zero_add, Int.toNat_natCast] at hw1
          have e0 := ext_mid s a m
          have hm' : (0 : Int) < m := by omega
          clear harg
          have HPB := Hd.mk (Blk.new wr 111 #[.int .i64 0, .int .i64 m, .string ⟨#[]⟩])
          have HIV : Hd (inv s 0 (l.take (k + 1)) = inv s 0 (l.take k) ++ [⟨0, 0, (s.drop a).take m⟩]) := ⟨by rw [HSN1.out]; simp only [invp]; rw [if_neg (by simp), if_pos (by omega), Int.toNat_natCast]⟩
          have HEX : Hd (wasN (l.take (k + 1)) = a + m) := ⟨by rw [HSN3.out]; simp [PT.ext]⟩
          generalize inv s 0 (l.take k) = L at *
          go_wp2_with (at_builtin; refine append_lit' el_part #[.int .i64 0, .int .i64 0, .string ⟨((s.drop a).take m).toArray⟩] (HOW.out.alloc _) rfl rfl rfl rfl (by simp) rfl (one3 rfl rfl rfl) HL1.out HL2.out HL3.out ?_; intro v9 w9 hown9 hbel9 hgr9 hnew9; obtain ⟨A9, k9, rfl⟩ := own_form hown9; have hpb9 := HPB.out.only (Only.of_grown hgr9) (fun e => by have := (HOW.out.lt _ e.symm).2; omega); have P0 := hpb9.cell 0; have P1 := hpb9.cell 1; have P2 := hpb9.cell 2; simp only [List.getElem?_toArray, List.getElem?_cons_zero, List.getElem?_cons_succ] at P0 P1 P2; have HO9 := Hd.mk hown9; have HB9 := Hd.mk hbel9; clear hown9 hbel9 hgr9 hnew9 hpb9)
          exact ⟨⟨k + 1, a + m, by omega, by go_num, by go_num, HEX.out, by rw [HIV.out, opv_append, opv_one, List.length_append]; exact HO9.out, (ex_alloc HB.out _).trans HB9.out⟩, by simp only [intOf]; omega⟩
        · dsimp only at c0 c1 c2 hpl1 hw1
          simp only [PT.ext, Int.toNat_zero, Nat.add_zero, Int.toNat_natCast] at hw1
          have hm' : (0 : Int) < m := by omega
          clear harg
          have HPB := Hd.mk (Blk.new wr 111 #[.int .i64 m, .int .i64 0, .string ⟨#[]⟩])
          have HIV : Hd (inv s 0 (l.take (k + 1)) = inv s 0 (l.take k) ++ [⟨m, 0, []⟩]) := ⟨by rw [HSN1.out]; simp only [invp]; rw [if_neg (by simp), if_neg (by omega)]⟩
          have HEX : Hd (wasN (l.take (k + 1)) = a + m) := ⟨by rw [HSN3.out]; simp [PT.ext]⟩
          generalize inv s 0 (l.take k) = L at *
          go_wp2_with (at_builtin; refine append_lit' el_part #[.int .i64 m, .int .i64 0, .string ⟨#[]⟩] (HOW.out.alloc _) rfl rfl rfl rfl (by simp) rfl (one3 rfl rfl rfl) HL1.out HL2.out HL3.out ?_; intro v9 w9 hown9 hbel9 hgr9 hnew9; obtain ⟨A9, k9, rfl⟩ := own_form hown9; have hpb9 := HPB.out.only (Only.of_grown hgr9) (fun e => by have := (HOW.out.lt _ e.symm).2; omega); have P0 := hpb9.cell 0; have P1 := hpb9.cell 1; have P2 := hpb9.cell 2; simp only [List.getElem?_toArray, List.getElem?_cons_zero, List.getElem?_cons_succ] at P0 P1 P2; have HO9 := Hd.mk hown9; have HB9 := Hd.mk hbel9; clear hown9 hbel9 hgr9 hnew9 hpb9)
          exact ⟨⟨k + 1, a + m, by omega, by go_num, by go_num, HEX.out, by rw [HIV.out, opv_append, opv_one, List.length_append]; exact HO9.out, (ex_alloc HB.out _).trans HB9.out⟩, by simp only [intOf]; omega⟩
      · obtain rfl : k = n := by omega
        rw [show l.take k = l from by rw [← hln, List.take_length]] at hown HOW HIL ⊢
        have hia := inv_arg HARG.out (s := s) (a := 0) (by rw [HWN.out]; omega)
        have him := inv_meas HARG.out (s := s) (a := 0)
        have hww := wasN_was HARG.out
        have hwn := HWN.out
        have hnn := was_nn hia
        have HIA := Hd.mk hia
        have HNU : Hd (norm (inv s 0 l) = urun (expand (inv s 0 l))) := ⟨norm_urun hia⟩
        have hm1 : was (inv s 0 l) ≤ 34360738368 := by omega
        have hm2 : plen (inv s 0 l) ≤ 1000000 := by omega
        obtain ⟨N, hN⟩ := Int.eq_ofNat_of_zero_le hnn
        have HNN := Hd.mk hN
        have hN2 : N ≤ 34360738368 := by omega
        clear hown hbel hia him hww hwn hnn hN
        generalize inv s 0 l = L at *
        go_wp2_with fail
        refine (norm_calls (Sl.of_own HOW.out) HIA.out (by omega) (by omega) (by have := HIL.out; omega)).mono ?_
        rintro e w9 ⟨⟨v9, rfl, hs9⟩, hb9⟩
        rw [HNU.out] at hs9
        have HS9 := Hd.mk hs9
        have HB9 := Hd.mk (bstep (bstep HB1.out HB.out) hb9)
        clear hs9 hb9
        go_wp2_with fail
        go_ret2
        exact ⟨HB9.out, _, by rw [H0.out, errOf_zero] <;> rfl, fun _ => HS9.out, fun h => absurd H0.out h⟩
  · have H0 := Hd.mk h0
    rw [errOf_ne h0]
    clear h0
    generalize apc l s = zz at *
    generalize apr l s = ap at *
    go_wp2_with fail
    go_ret2
    exact ⟨HB1.out, .slice none 0 0, by rw [errOf_ne H0.out] <;> rfl, fun h => absurd h H0.out, fun _ => rfl⟩
end
end Go.Proofs.YtgokmldngnmmhaaDoor
