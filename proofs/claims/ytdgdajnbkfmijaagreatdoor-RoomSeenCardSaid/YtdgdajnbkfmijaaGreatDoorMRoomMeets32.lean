/- Apply of both. -/
import Derived.Test.YtdgdajnbkfmijaaGreatDoorMRoomMeets30
import Derived.Test.YtdgdajnbkfmijaaGreatDoorMRoomMeets3
namespace Go.Proofs.YtdgdajnbkfmijaaGreatDoor
open Go.RowKit
set_option maxRecDepth 100000
theorem ext_mid (s : U.Bs) (a x : Nat) : (ByteArray.mk s.toArray).extract a (a + x) = ⟨((s.drop a).take x).toArray⟩ := by
  apply ByteArray.ext
  simp [ByteArray.extract, ByteArray.copySlice]
section
attribute [local go_sem] add_mk str_append
/-- A part in its variable, beside the builder. -/
theorem blk_kept {w w' : World} {g b : Nat} {cs : Array Value} (h : Blk w g 113 cs) (hk : Lib.OthersKept 5 (some b) w w') (hg : g ≠ b) : Blk w' g 113 cs :=
  hk g _ h (fun e => hg (Option.some.inj e)) (fun c fz e => by cases e)
set_option maxHeartbeats 8000000 in
theorem oapply_calls {l : List PT} {v : Value} {n : Nat} {s : U.Bs} {w : World} (hgl : Hdl w) (hsl : Sl w 3 v n (opv l)) (hp : ∀ p ∈ l, p.put.length ≤ 35184372087808) (hpl : plen l ≤ 1099511627776) (hs : s.length ≤ 1000000) :
    Calls Tryz.prog 94 #[v, .string ⟨s.toArray⟩] w fun e w' => e = .returned (.tuple #[.string ⟨(apr l s).toArray⟩, errOf (apc l s)]) ∧ Below w.heap.size w w' := by
  have hln : l.length = n := by have := hsl.len; rw [opv_length] at this; omega
  have hle := hsl.le
  unfold maxLen at hle
  have HSL := Hd.mk hsl
  have HP := Hd.mk hp
  have HGL := Hd.mk hgl
  obtain ⟨A, c, rfl, -⟩ := hsl
  clear hp hgl
  go_enter Tryz.func94, Tryz.ntmps94
  go_wp2_with fail
  refine (ocheck_calls HGL.out HSL.out HP.out (by omega)).mono ?_
  rintro e w1 ⟨⟨ev, rfl, -, rfl⟩, hb1⟩
  have HB1 := Hd.mk hb1
  clear hb1
  by_cases h0 : chk l s.length = 0
  · obtain ⟨hg, hwn⟩ := chk_was h0
    have HARG : Hd (∀ p ∈ l, p.arg) := ⟨fun p hp => (hg p hp).1⟩
    have HWN := Hd.mk hwn
    have HC : Hd (apc l s = if aok s 0 l = true then 0 else 10) := ⟨by unfold apc; rw [if_pos h0]⟩
    rw [h0, errOf_zero]
    clear h0 hg hwn
    have HBN := Hd.mk (bnew w1)
    go_wp2_with fail
    go_loopw [8, 20] (fun at_ i wr => ∃ k a : Nat, k ≤ n ∧ i = .int .i64 k ∧ at_ = .int .i64 a ∧ wasN (l.take k) = a ∧ aok s 0 (l.take k) = true ∧ Lib.IsBuilderF 186 5 w1.heap.size w1.heap.size (Lib.byteCells (aout s 0 (l.take k))) wr ∧ Below w1.heap.size w1 wr) (fun _ i _ => n - (intOf i).toNat)
    case atStart => exact ⟨0, 0, by omega, rfl, rfl, rfl, rfl, HBN.out, ex_alloc (Below.refl _ _) _⟩
    case round =>
      obtain ⟨k, a, hk, rfl, rfl, hwa, hok, hbd, hbel⟩ := hrel
      have HB := Hd.mk hbel
      have HBD := Hd.mk hbd
      have hsz := hbel.size
      by_cases hkn : k < n
      · obtain ⟨b, o, c', hv, hlt, c0, c1, c2⟩ := (HSL.out.below (bstep HB1.out hbel)).part hkn (by omega)
        cases hv
        have hw1 : wasN (l.take (k + 1)) ≤ s.length := by
          have h1 := HWN.out
          have h2 : wasN l = wasN (l.take (k + 1)) + wasN (l.drop (k + 1)) := by
            rw [← wasN_append, List.take_append_drop]
          omega
        rw [List.take_succ_eq_append_getElem (by omega), wasN_append] at hw1
        have hs1 : wasN [l[k]] = l[k].ext := by simp [wasN]
        rw [hs1, hwa] at hw1
        have hmem := List.getElem_mem (h := (by omega : k < l.length))
        have harg := HARG.out _ hmem
        have hpl1 : l[k].put.length ≤ plen l := by
          have h1 := plen_take l (k + 1)
          rw [List.take_succ_eq_append_getElem (by omega), plen_append] at h1
          simp only [plen] at h1
          omega
        have HNOT := Hd.mk (aok_not (s := s) (l := l) (k := k) (by omega))
        have HSN1 : Hd (aout s 0 (l.take (k + 1)) = aout s 0 (l.take k) ++ ((s.drop a).take l[k].keep.toNat ++ l[k].put)) := ⟨by
          rw [List.take_succ_eq_append_getElem (by omega), aout_snoc, Nat.zero_add, hwa]⟩
        have HSN2 : Hd (aok s 0 (l.take (k + 1)) = (aok s 0 (l.take k) && (edg s a && edg s (a + l[k].ext)))) := ⟨by
          rw [List.take_succ_eq_append_getElem (by omega), aok_snoc, Nat.zero_add, hwa]⟩
        have HSN3 : Hd (wasN (l.take (k + 1)) = a + l[k].ext) := ⟨by
          rw [List.take_succ_eq_append_getElem (by omega), wasN_append, hs1, hwa]⟩
        rw [hwa] at HNOT
        have hol := aout_len s 0 (l.take k)
        rw [hwa] at hol
        have hpt := plen_take l k
        generalize l[k] = p at *
        obtain ⟨x, y, z⟩ := p
        obtain ⟨_, hx, hy⟩ := harg
        obtain ⟨x, rfl⟩ := Int.eq_ofNat_of_zero_le hx
        obtain ⟨y, rfl⟩ := Int.eq_ofNat_of_zero_le hy
        have hext : (⟨(x : Int), (y : Int), z⟩ : PT).ext = x + y := by unfold PT.ext; simp
        rw [hext] at hw1 HNOT HSN2 HSN3
        rw [Int.toNat_natCast] at HSN1
        dsimp only at c0 c1 c2 hpl1 HSN1
        have HOK := Hd.mk hok
        have HWA := Hd.mk hwa
        clear hx hy hmem hs1 hext hok hwa
        have hbs : w1.heap.size < wr.heap.size := by
          rcases hbd with h | h
          · exact h.lt
          · exact h.lt
        clear hbel hbd
        generalize aout s 0 (l.take k) = out at *
        have e0 := ext_mid s a x
        cases he1 : edg s a
        · have HF : Hd (apc l s = 10) := ⟨by rw [HC.out, HNOT.out (by rw [he1]; rfl)]; rfl⟩
          have HR : Hd (apr l s = []) := ⟨by unfold apr; rw [if_neg (by rw [HF.out]; decide)]⟩
          have HE := Hd.mk he1
          clear he1
          go_wp2_with fail
          refine (oedge_calls s a _ (by omega)).mono ?_
          rintro e w2 ⟨rfl, rfl⟩
          rw [HE.out]
          go_wp2_with fail
          go_ret2
          exact ⟨by rw [HR.out, HF.out] <;> rfl, ex_alloc (bstep HB1.out HB.out) _⟩
        · cases he2 : edg s (a + (x + y))
          · have HF : Hd (apc l s = 10) := ⟨by rw [HC.out, HNOT.out (by rw [he1, he2]; rfl)]; rfl⟩
            have HR : Hd (apr l s = []) := ⟨by unfold apr; rw [if_neg (by rw [HF.out]; decide)]⟩
            have HE := Hd.mk he1
            have HE2 := Hd.mk he2
            clear he1 he2
            go_wp2_with fail
            refine (oedge_calls s a _ (by omega)).mono ?_
            rintro e w2 ⟨rfl, rfl⟩
            rw [HE.out]
            go_wp2_with fail
            rw [show ((a : Int) + x + y) = ((a + (x + y) : Nat) : Int) from by omega]
            refine (oedge_calls s (a + (x + y)) _ (by omega)).mono ?_
            rintro e w2 ⟨rfl, rfl⟩
            rw [HE2.out]
            go_wp2_with fail
            go_ret2
            exact ⟨by rw [HR.out, HF.out] <;> rfl, ex_alloc (bstep HB1.out HB.out) _⟩
          · have HOK2 : Hd (aok s 0 (l.take (k + 1)) = true) := ⟨by rw [HSN2.out, HOK.out, he1, he2]; rfl⟩
            have HE := Hd.mk he1
            have HE2 := Hd.mk he2
            clear he1 he2
            go_wp2_with fail
            refine (oedge_calls s a _ (by omega)).mono ?_
            rintro e w2 ⟨rfl, rfl⟩
            rw [HE.out]
            go_wp2_with fail
            rw [show ((a : Int) + x + y) = ((a + (x + y) : Nat) : Int) from by omega]
            refine (oedge_calls s (a + (x + y)) _ (by omega)).mono ?_
            rintro e w2 ⟨rfl, rfl⟩
            rw [HE2.out]
            go_wp2_with fail
            have HPB : Hd (Blk ((wr.alloc (.cells #[.int .i64 x, .int .i64 y, .string ⟨z.toArray⟩] 113)).drew) wr.heap.size 113 #[.int .i64 x, .int .i64 y, .string ⟨z.toArray⟩]) := ⟨Blk.new wr _ _⟩
            have HBDd : Hd (Lib.IsBuilderF 186 5 w1.heap.size w1.heap.size (Lib.byteCells out) ((wr.alloc (.cells #[.int .i64 x, .int .i64 y, .string ⟨z.toArray⟩] 113)).drew)) := ⟨HBD.out.alloc _⟩
            have HSZ : Hd (w1.heap.size ≤ ((wr.alloc (.cells #[.int .i64 x, .int .i64 y, .string ⟨z.toArray⟩] 113)).drew).heap.size) := ⟨by
              show w1.heap.size ≤ (wr.alloc _).heap.size
              rw [World.size_alloc]; omega⟩
            have HLN : Hd ((Lib.byteCells out).length + (ByteArray.mk ((s.drop a).take x ++ z).toArray).size ≤ 140737488355328) := ⟨by
              rw [Lib.byteCells_length]
              simp only [ByteArray.size, List.size_toArray, List.length_append, List.length_take, List.length_drop]
              omega⟩
            have i1 : (a : Int) + x ≤ s.length := by omega
            have i2 : (a : Int) ≤ (a : Int) + x := by omega
            have i3 : (0 : Int) ≤ a := by omega
            have i4 : (0 : Int) ≤ (a : Int) + x := by omega
            have i5 : (a : Int) ≤ s.length := by omega
            have i6 : IntKind.i64.wrap ((a : Int) + x) = (a : Int) + x := by rw [IntKind.wrap_i64]; omega
            go_region_with (go_at_call 99; refine (bwrite_calls w1.heap.size w1.heap.size (Lib.byteCells out) ⟨((s.drop a).take x ++ z).toArray⟩ _ HBDd.out HLN.out HSZ.out).mono ?_; rintro e w3 ⟨rfl, hb3, hbel3, hok3⟩; have HPC := Hd.mk (blk_kept HPB.out hok3 (by omega)); have q0 := HPC.out.cell 0; have q1 := HPC.out.cell 1; simp only [List.getElem?_toArray, List.getElem?_cons_zero, List.getElem?_cons_succ] at q0 q1; have HBD3 := Hd.mk hb3; have HBE3 := Hd.mk hbel3; clear hb3 hbel3 hok3)
            all_goals
              go_wp2_with fail
              exact ⟨⟨k + 1, a + (x + y), by omega, by go_num, by go_num, HSN3.out, HOK2.out, by rw [HSN1.out, Lib.byteCells_append, ← bcells ((s.drop a).take x ++ z)]; exact .inr HBD3.out, (ex_drew (ex_alloc HB.out _)).trans HBE3.out⟩, by simp only [intOf]; omega⟩
      · obtain rfl : k = n := by omega
        rw [show l.take k = l from by rw [← hln, List.take_length]] at hok HBD
        have HF : Hd (apc l s = 0) := ⟨by rw [HC.out, hok]; rfl⟩
        have HR : Hd (apr l s = aout s 0 l) := ⟨by unfold apr; rw [if_pos HF.out]⟩
        clear hok hwa hbel hbd
        generalize aout s 0 l = out at *
        go_wp2_with fail
        refine (bstring_calls w1.heap.size w1.heap.size out _ HBD.out hsz).mono ?_
        rintro e w3 ⟨rfl, -, hbel3, -⟩
        have HB3 := Hd.mk ((bstep HB1.out HB.out).trans (hbel3.mono HB1.out.size))
        clear hbel3
        go_wp2_with fail
        go_ret2
        exact ⟨by rw [HR.out, HF.out, errOf_zero] <;> rfl, HB3.out⟩
  · have HF : Hd (apc l s = chk l s.length) := ⟨by unfold apc; rw [if_neg h0]⟩
    have HR : Hd (apr l s = []) := ⟨by unfold apr; rw [HF.out, if_neg h0]⟩
    rw [errOf_ne h0]
    have H0 := Hd.mk h0
    clear h0
    generalize chk l s.length = zz at *
    go_wp2_with fail
    go_ret2
    exact ⟨by rw [HR.out, HF.out, errOf_ne H0.out] <;> rfl, HB1.out⟩
end
end Go.Proofs.YtdgdajnbkfmijaaGreatDoor
