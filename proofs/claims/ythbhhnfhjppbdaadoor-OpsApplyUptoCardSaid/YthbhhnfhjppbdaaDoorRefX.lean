/- ref.Transform: its closures. -/
import Derived.Test.YthbhhnfhjppbdaaDoorRefG
import Derived.Test.YthbhhnfhjppbdaaDoorOpXT
namespace Go.Proofs.YthbhhnfhjppbdaaDoor
open Go.RowKit
set_option maxRecDepth 100000
/-- A closure that lays parts behind what stands. -/
def ClPost (base bo : Nat) (v : Value) (out add : List PT) (w : World) (e : Ending) (w' : World) : Prop :=
  e = .returned (.tuple #[]) ∧ ∃ v', Blk w' bo 23 #[v'] ∧ w'.ownsRow base 81 3 v' (out ++ add).length (opv (out ++ add)) ∧ Only (fun k => k = bo ∨ v.ownBlock = some k) w w'
section
variable {base bo : Nat} {v v1 : Value} {out : List PT} {w w1 : World}
/-- The store at the closure's end. -/
theorem cl_end {p : PT} {N : Nat} {y : Value} (hb : bo < base) (hO : Blk w bo 23 #[y]) (hN : out.length = N) (hown : w1.ownsRow base 81 3 v1 (N + 1) (opv out ++ p.cells)) (hg : w.grownBy w1 v.ownBlock) (hv : v.ownBlock ≠ some bo) :
    ClPost base bo v out [p] w (.returned (.tuple #[])) (w1.setCell ⟨bo, 0, none⟩ v1) := by
  subst hN
  have h1 : Only (fun k => k = bo ∨ v.ownBlock = some k) w w1 := (Only.of_grown hg).mono (fun _ _ e => .inr e.symm)
  have hO1 : Blk w1 bo 23 #[y] := hO.only (Only.of_grown hg) (fun e => hv e.symm)
  refine ⟨rfl, v1, hO1.set_ 0 v1, ?_, h1.setCell (p := ⟨bo, 0, none⟩) (.inl (.inl rfl)) _⟩
  rw [opv_append, opv_one, List.length_append]
  exact ownsRow_setCell_other hown (fun e => by have := (hown.lt bo e).1; omega) _
theorem cl_nil (hO : Blk w bo 23 #[v]) (hown : w.ownsRow base 81 3 v out.length (opv out)) : ClPost base bo v out [] w (.returned (.tuple #[])) w :=
  ⟨rfl, v, hO, by rw [List.append_nil]; exact hown, Only.refl _ _⟩
attribute [local go_sem] add_mk
set_option maxHeartbeats 4000000 in
theorem tput_calls {b : U.Bs} (hb : bo < base) (hbase : base ≤ w.heap.size) (hO : Blk w bo 23 #[v])
    (hown : w.ownsRow base 81 3 v out.length (opv out)) (hlen : out.length ≤ 1099511627776) :
    Calls Tryd.prog 43 #[.string ⟨b.toArray⟩, .pointer (some ⟨bo, 0, none⟩)] w (ClPost base bo v out (flushP b 0) w) := by
  have co := hO.cell 0
  have fo := hO.frozen 0
  simp only [List.getElem?_toArray, List.getElem?_cons_zero] at co
  have HO := Hd.mk hO
  have HW := Hd.mk hown
  have HV : Hd (v.ownBlock ≠ some bo) := ⟨fun e => by have := (hown.lt bo e).1; omega⟩
  obtain ⟨A, k, rfl⟩ := own_form hown
  clear hO hown
  by_cases h1 : b = []
  · subst h1
    have HE : Hd (flushP [] 0 = []) := ⟨rfl⟩
    go_enter Tryd.func43, Tryd.ntmps43
    go_wp2_with fail
    go_end0
    rw [HE.out]
    exact cl_nil HO.out HW.out
  · have h1' : (b == []) = false := by rw [beq_eq_false_iff_ne]; exact h1
    have HE : Hd (flushP b 0 = [⟨0, 0, b⟩]) := ⟨by unfold flushP; rw [if_neg h1, if_neg (by omega)]; rfl⟩
    go_enter Tryd.func43, Tryd.ntmps43
    go_wp2_with (at_builtin; refine append_lit' el_part #[.int .i64 0, .int .i64 0, .string ⟨b.toArray⟩] HW.out rfl rfl rfl rfl (by simp) rfl (one3 rfl rfl rfl) (by unfold maxLen; omega) (by omega) hbase ?_; intro v1 w1 hown1 hbel1 hgr1 hnew1; obtain ⟨A1, k1, rfl⟩ := own_form hown1; have hO1 := HO.out.below hbel1 hb; have co1 := hO1.cell 0; have fo1 := hO1.frozen 0; simp only [List.getElem?_toArray, List.getElem?_cons_zero] at co1; have HW1 := Hd.mk hown1; have HG1 := Hd.mk hgr1; clear hown1 hgr1 hbel1 hnew1 hO1)
    go_end0
    rw [HE.out]
    exact cl_end hb HO.out rfl HW1.out HG1.out HV.out
set_option maxHeartbeats 4000000 in
theorem tkeep_calls {n : Int} (hb : bo < base) (hbase : base ≤ w.heap.size) (hO : Blk w bo 23 #[v])
    (hown : w.ownsRow base 81 3 v out.length (opv out)) (hlen : out.length ≤ 1099511627776) :
    Calls Tryd.prog 42 #[.int .i64 n, .pointer (some ⟨bo, 0, none⟩)] w (ClPost base bo v out (keepP n) w) := by
  have co := hO.cell 0
  have fo := hO.frozen 0
  simp only [List.getElem?_toArray, List.getElem?_cons_zero] at co
  have HO := Hd.mk hO
  have HW := Hd.mk hown
  have HV : Hd (v.ownBlock ≠ some bo) := ⟨fun e => by have := (hown.lt bo e).1; omega⟩
  obtain ⟨A, k, rfl⟩ := own_form hown
  clear hO hown
  by_cases h1 : 0 < n
  · have HE : Hd (keepP n = [⟨n, 0, []⟩]) := ⟨by unfold keepP; rw [if_pos h1]⟩
    go_enter Tryd.func42, Tryd.ntmps42
    go_wp2_with (at_builtin; refine append_lit' el_part #[.int .i64 n, .int .i64 0, .string ⟨#[]⟩] HW.out rfl rfl rfl rfl (by simp) rfl (one3 rfl rfl rfl) (by unfold maxLen; omega) (by omega) hbase ?_; intro v1 w1 hown1 hbel1 hgr1 hnew1; obtain ⟨A1, k1, rfl⟩ := own_form hown1; have hO1 := HO.out.below hbel1 hb; have co1 := hO1.cell 0; have fo1 := hO1.frozen 0; simp only [List.getElem?_toArray, List.getElem?_cons_zero] at co1; have HW1 := Hd.mk hown1; have HG1 := Hd.mk hgr1; clear hown1 hgr1 hbel1 hnew1 hO1)
    go_end0
    rw [HE.out]
    exact cl_end hb HO.out rfl HW1.out HG1.out HV.out
  · have HE : Hd (keepP n = []) := ⟨by unfold keepP; rw [if_neg h1]⟩
    go_enter Tryd.func42, Tryd.ntmps42
    go_wp2_with fail
    go_end0
    rw [HE.out]
    exact cl_nil HO.out HW.out
end
end Go.Proofs.YthbhhnfhjppbdaaDoor
