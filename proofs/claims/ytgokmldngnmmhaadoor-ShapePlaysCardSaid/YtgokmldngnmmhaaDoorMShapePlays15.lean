/- Several texts of the proof, one behind the other: Err, RefT, RefR. -/
import Derived.Test.YtgokmldngnmmhaaDoorMShapePlays14
import Derived.Test.YtgokmldngnmmhaaDoorMShapePlays1
import Derived.Deep.QuietTactic
import Derived.BigQuiet
import Derived.Test.YtgokmldngnmmhaaDoorMShapePlays6
import Derived.Test.YtgokmldngnmmhaaDoorMShapePlays7
/- Errors taken apart: api.Tell, plain.Place, and the laws' own is and bare. -/
namespace Go.Proofs.YtgokmldngnmmhaaDoor
open Go.RowKit
set_option maxRecDepth 100000
theorem asW_cell {w : World} {t : Addr} {e : Int} {old : Value} (h : w.cell? t = some old) : (asW w t e).cell? t = some (.int .i64 e) := by
  unfold asW
  have hl := World.block_lt_of_cell? w t h
  refine World.cell?_setCell_same _ _ _ (u := old) ?_
  rw [World.cell?_alloc_lt _ _ t (by simp; omega), World.cell?_alloc_lt _ _ t (by simp; omega), World.cell?_alloc_lt _ _ t (by simp; omega), World.cell?_alloc_lt _ _ t hl]
  exact h
theorem asW_below {w0 w : World} {t : Addr} {e : Int} (h : Below w0.heap.size w0 w) (ht : w0.heap.size ≤ t.block) : Below w0.heap.size w0 (asW w t e) := by
  unfold asW
  exact (ex_alloc (ex_alloc (ex_alloc (ex_alloc h _) _) _) _).setCell ht _
set_option maxHeartbeats 1000000 in
theorem tell_nil (w : World) : Calls Tryd.prog 62 #[.nilIface] w fun ev w' => ev = .returned (.int .i64 0) ∧ Below w.heap.size w w' := by
  go_enter Tryd.func62, Tryd.ntmps62
  go_wp2_with fail
  go_ret
  exact ⟨rfl, Below.refl _ _⟩
set_option maxHeartbeats 1000000 in
theorem tell_no (e : Int) (w : World) (hg : Hdl w) : Calls Tryd.prog 62 #[.iface 23 (.int .i64 e)] w fun ev w' => ev = .returned (.int .i64 e) ∧ Below w.heap.size w w' := by
  have HG := Hd.mk hg
  clear hg
  go_enter Tryd.func62, Tryd.ntmps62
  go_wp2_with fail
  have hn : (w.alloc (.cells #[.int .i64 0] 23)).cell? ⟨w.heap.size, 0, none⟩ = some (.int .i64 0) := by simp
  have hc := asW_cell (e := e) hn
  have hbl : Below w.heap.size w (asW (w.alloc (.cells #[.int .i64 0] 23)) ⟨w.heap.size, 0, none⟩ e) := asW_below (ex_alloc (Below.refl _ _) _) (Nat.le_refl _)
  refine (as_hit e ⟨w.heap.size, 0, none⟩ (.int .i64 0) _ (HG.out.below (ex_alloc (Below.refl _ _) _)) hn (by simp)).mono ?_
  rintro ev w' ⟨rfl, rfl⟩
  generalize asW (w.alloc (.cells #[.int .i64 0] 23)) ⟨w.heap.size, 0, none⟩ e = w1 at hc hbl ⊢
  clear hn
  go_wp2_with fail
  go_ret
  exact ⟨rfl, hbl⟩
set_option maxHeartbeats 1000000 in
theorem tell_at (g : Nat) (e p : Int) (w : World) (hg : Hdl w) (hat : AtBlk w g e p) : Calls Tryd.prog 62 #[atV g] w fun ev w' => ev = .returned (.int .i64 e) ∧ Below w.heap.size w w' := by
  have HG := Hd.mk hg
  have HA := Hd.mk hat
  clear hg hat
  go_enter Tryd.func62, Tryd.ntmps62
  go_wp2_with fail
  have hn : (w.alloc (.cells #[.int .i64 0] 23)).cell? ⟨w.heap.size, 0, none⟩ = some (.int .i64 0) := by simp
  have hc := asW_cell (e := e) hn
  have hbl : Below w.heap.size w (asW (w.alloc (.cells #[.int .i64 0] 23)) ⟨w.heap.size, 0, none⟩ e) := asW_below (ex_alloc (Below.refl _ _) _) (Nat.le_refl _)
  refine (as_at g e p ⟨w.heap.size, 0, none⟩ (.int .i64 0) _ (HG.out.below (ex_alloc (Below.refl _ _) _)) (HA.out.below (ex_alloc (Below.refl _ _) _)) hn (by simp)).mono ?_
  rintro ev w' ⟨rfl, rfl⟩
  generalize asW (w.alloc (.cells #[.int .i64 0] 23)) ⟨w.heap.size, 0, none⟩ e = w1 at hc hbl ⊢
  clear hn
  go_wp2_with fail
  go_ret
  exact ⟨rfl, hbl⟩
/-- An error that the program makes: none, an Errno, an *api.At; its Errno and its place (-1: none). -/
inductive ErrV (w : World) : Value → Int → Int → Prop
  | nil : ErrV w .nilIface 0 (-1)
  | no (e : Int) : ErrV w (.iface 23 (.int .i64 e)) e (-1)
  | at_ (g : Nat) (e p : Int) (h : AtBlk w g e p) : ErrV w (atV g) e p
theorem ErrV.below {w w' : World} {v : Value} {e p : Int} (h : ErrV w v e p) (hb : Below w.heap.size w w') : ErrV w' v e p := by
  cases h with
  | nil => exact .nil
  | no => exact .no _
  | at_ g _ _ h => exact .at_ g _ _ (h.below hb)
theorem tell_calls {v : Value} {e p : Int} {w : World} (h : ErrV w v e p) (hg : Hdl w) : Calls Tryd.prog 62 #[v] w fun ev w' => ev = .returned (.int .i64 e) ∧ Below w.heap.size w w' := by
  cases h with
  | nil => exact tell_nil w
  | no e => exact tell_no e w hg
  | at_ g e p h => exact tell_at g e p w hg h
set_option maxHeartbeats 1000000 in
theorem ta_noAt (e : Int) (w : World) : (Instr.typeAssert (.iface 23 (.int .i64 e)) 29 126 true).run Tryd.prog w = .ok (.tuple #[.pointer none, .bool false]) w := by kernel_rfl
theorem ta_atAt (g : Nat) (w : World) : (Instr.typeAssert (.iface 126 (.pointer (some ⟨g, 0, none⟩))) 29 126 true).run Tryd.prog w = .ok (.tuple #[.pointer (some ⟨g, 0, none⟩), .bool true]) w := by kernel_rfl
theorem ta_noUn (e : Int) (w : World) : (Instr.typeAssert (.iface 23 (.int .i64 e)) 29 198 true).run Tryd.prog w = .ok (.tuple #[.nilIface, .bool false]) w :=
  run_typeAssert_lacksB Tryd.underlying198 (by kernel_rfl) (by kernel_rfl) _ _ w
theorem place_x (e : Int) (w : World) (hg : Hdl w) : Calls Tryd.prog 74 #[.iface 23 (.int .i64 e)] w fun ev w' => ev = .returned (.tuple #[.int .i64 e, .int .i64 (-1)]) ∧ Below w.heap.size w w' := by
  have HG := Hd.mk hg
  have t1 := ta_noAt e
  have t2 := ta_noUn e
  clear hg
  go_enter Tryd.func74, Tryd.ntmps74
  go_wp2_with fail
  refine (tell_no e _ HG.out).mono ?_
  rintro ev w1 ⟨rfl, hb⟩
  go_wp2_with fail
  refine wp_loop_rounds 1 ?_
  rw [rounds_succ]
  go_wp2_with fail
  go_ret2
  exact ⟨rfl, hb⟩
set_option maxHeartbeats 1000000 in
theorem place_nil (w : World) : Calls Tryd.prog 74 #[.nilIface] w fun ev w' => ev = .returned (.tuple #[.int .i64 0, .int .i64 (-1)]) ∧ Below w.heap.size w w' := by
  go_enter Tryd.func74, Tryd.ntmps74
  go_wp2_with fail
  refine (tell_nil _).mono ?_
  rintro ev w1 ⟨rfl, hb⟩
  go_wp2_with fail
  refine wp_loop_rounds 1 ?_
  rw [rounds_succ]
  go_wp2_with fail
  go_ret2
  exact ⟨rfl, hb⟩
set_option maxHeartbeats 1000000 in
theorem place_at (g : Nat) (e p : Int) (w : World) (hg : Hdl w) (hat : AtBlk w g e p) : Calls Tryd.prog 74 #[atV g] w fun ev w' => ev = .returned (.tuple #[.int .i64 e, .int .i64 p]) ∧ Below w.heap.size w w' := by
  have HG := Hd.mk hg
  have HA := Hd.mk hat
  have t1 := ta_atAt g
  clear hg hat
  go_enter Tryd.func74, Tryd.ntmps74
  go_wp2_with fail
  refine (tell_at g e p _ HG.out HA.out).mono ?_
  rintro ev w1 ⟨rfl, hb⟩
  have hA := HA.out.below hb
  have hc : w1.cell? ⟨g, 1, none⟩ = some (.int .i64 p) := by
    unfold AtBlk at hA
    simp [World.cell?, hA]
  clear hA
  go_wp2_with fail
  refine wp_loop_rounds 1 ?_
  rw [rounds_succ]
  go_wp2_with fail
  go_quiet (fail)
  go_wp2_with fail
  go_ret2
  exact ⟨rfl, ex_drewN _ hb⟩
theorem place_calls {v : Value} {e p : Int} {w : World} (h : ErrV w v e p) (hg : Hdl w) : Calls Tryd.prog 74 #[v] w fun ev w' => ev = .returned (.tuple #[.int .i64 e, .int .i64 p]) ∧ Below w.heap.size w w' := by
  cases h with
  | nil => exact place_nil w
  | no e => exact place_x e w hg
  | at_ g e p h => exact place_at g e p w hg h
theorem beqi (a b : Int) : (a == b) = decide (a = b) := by by_cases h : a = b <;> simp [h]
set_option maxHeartbeats 1000000 in
theorem is_x {v : Value} {e p : Int} {w : World} (f q : Int) (h : ErrV w v e p) (hg : Hdl w) : Calls Tryd.prog 19 #[v, .agg #[.int .i64 f, .int .i64 q]] w fun ev w' => ev = .returned (.bool (e == f && p == q)) ∧ Below w.heap.size w w' := by
  have HH := Hd.mk h
  have HG := Hd.mk hg
  clear h hg
  go_enter Tryd.func19, Tryd.ntmps19
  go_wp2_with fail
  have hx : Below w.heap.size w (w.alloc (.cells #[.int .i64 f, .int .i64 q] 25)) := ex_alloc (Below.refl _ _) _
  refine (place_calls (HH.out.below hx) (HG.out.below hx)).mono ?_
  rintro ev w1 ⟨rfl, hb⟩
  have hb2 := bstep hx hb
  obtain ⟨hc, hf⟩ := bcell hb
  simp only [World.size_alloc] at hc hf
  have f0 : w1.cell? ⟨w.heap.size, 0, none⟩ = some (.int .i64 f) := by rw [hc _ _ (by omega)]; simp
  have f1 : w1.cell? ⟨w.heap.size, 1, none⟩ = some (.int .i64 q) := by rw [hc _ _ (by omega)]; simp
  have HB := Hd.mk hb2
  clear hb hb2 hc hf hx
  cases h1 : (e == f)
  · go_wp2_with fail
    go_ret
    exact ⟨by rw [h1]; rfl, HB.out⟩
  · go_wp2_with fail
    go_ret
    exact ⟨by rw [h1]; rfl, HB.out⟩
theorem is_true {v : Value} {e p : Int} {w : World} (h : ErrV w v e p) (hg : Hdl w) : Calls Tryd.prog 19 #[v, .agg #[.int .i64 e, .int .i64 p]] w fun ev w' => ev = .returned (.bool true) ∧ Below w.heap.size w w' := by
  refine (is_x e p h hg).mono ?_
  rintro ev w' ⟨rfl, hb⟩
  exact ⟨by simp, hb⟩
theorem bareR_calls (e : Int) (w : World) : Calls Tryd.prog 70 #[.int .i64 e] w fun ev w' => ev = .returned (.agg #[.int .i64 e, .int .i64 (-1)]) ∧ Below w.heap.size w w' := by
  go_enter Tryd.func70, Tryd.ntmps70
  go_wp2_with fail
  refine bodyPost_ret (v := .agg #[.int .i64 e, .int .i64 (-1)]) (by simp [results, Tryd.results70, go_sem]) rfl ?_
  exact ⟨rfl, (by repeat (first | exact Below.refl _ _ | exact ex_drew (by assumption) | apply ex_drew | apply ex_drewN | apply ex_alloc | assumption))⟩
set_option maxHeartbeats 1000000 in
theorem bare_true {v : Value} {e : Int} {w : World} (h : ErrV w v e (-1)) (hg : Hdl w) : Calls Tryd.prog 30 #[v, .int .i64 e] w fun ev w' => ev = .returned (.bool true) ∧ Below w.heap.size w w' := by
  have HH := Hd.mk h
  have HG := Hd.mk hg
  clear h hg
  go_enter Tryd.func30, Tryd.ntmps30
  go_wp2_with fail
  refine (bareR_calls e _).mono ?_
  rintro ev w1 ⟨rfl, hb1⟩
  go_wp2_with fail
  refine (is_true (HH.out.below hb1) (HG.out.below hb1)).mono ?_
  rintro ev w2 ⟨rfl, hb2⟩
  go_wp2_with fail
  go_ret
  exact ⟨rfl, bstep hb1 hb2⟩
end Go.Proofs.YtgokmldngnmmhaaDoor
/- Walks of the reference's Text and FromHalves. -/
namespace Go.Proofs.YtgokmldngnmmhaaDoor
open Go.RowKit
set_option maxRecDepth 100000
def fltV (e p : Int) : Value := .agg #[.int .i64 e, .int .i64 p]
def RTextPost (pre rest : List Int) (w : World) (e : Ending) (w' : World) : Prop :=
  Below w.heap.size w w' ∧ (rest = [] → e = .returned (.tuple #[.string ⟨(U.encs pre).toArray⟩, .agg #[.int .i64 0, .int .i64 (-1)]])) ∧
    (rest ≠ [] → e = .returned (.tuple #[.string ⟨#[]⟩, .agg #[.int .i64 3, .int .i64 pre.length]]))
section
attribute [local go_sem] str_append
end
def RFromPost (pre rest : List Int) (w : World) (e : Ending) (w' : World) : Prop :=
  Below w.heap.size w w' ∧ (rest = [] → e = .returned (.tuple #[.string ⟨(U.encs pre).toArray⟩, .agg #[.int .i64 0, .int .i64 (-1)]])) ∧
    (rest ≠ [] → e = .returned (.tuple #[.string ⟨#[]⟩, .agg #[.int .i64 3, .int .i64 (U.hoff pre pre.length)]]))
theorem le_hoff {rs : List Int} {k : Nat} (hk : k ≤ rs.length) : k ≤ U.hoff rs k := by
  induction k with
  | zero => omega
  | succ k ih =>
    rw [U.hoff_succ hk]
    have := U.hwid_pos rs[k]
    have := ih (by omega)
    omega
end Go.Proofs.YtgokmldngnmmhaaDoor
/- The reference's Runes. -/
namespace Go.Proofs.YtgokmldngnmmhaaDoor
open Go.RowKit
set_option maxRecDepth 100000
theorem first_at {s : U.Bs} {r : Int} {n : Nat} (h : U.next s = (r, n)) (w : World) (hl : s.length ≤ 140737488351232) :
    Calls Tryd.prog 69 #[.string ⟨s.toArray⟩] w fun e w' => e = .returned (.tuple #[.int .i32 r, .int .i64 n]) ∧ Below w.heap.size w w' := by
  have := first_calls hl w
  rw [h] at this
  exact this
theorem own_below {w w' : World} {base : Nat} {e : TypeId} {size : Nat} {v : Value} {n : Nat} {xs : List Value} (h : w.ownsRow base e size v n xs) (hb : Below w.heap.size w w') : w'.ownsRow base e size v n xs := by
  rcases h with ⟨h1, h | ⟨g, cap, cur, h2, h3, hg, h4⟩⟩
  · exact ⟨h1, .inl h⟩
  · exact ⟨h1, .inr ⟨g, cap, cur, h2, h3, (hb.block g (Array.getElem?_eq_some_iff.1 hg).1).trans hg, h4⟩⟩
theorem own_far {w w' : World} {g0 : Nat} {e : TypeId} {size : Nat} {v : Value} {n : Nat} {xs : List Value} (h : w.ownsRow (g0 + 1) e size v n xs) (hf : ∀ g', g' ≠ g0 → w'.heap[g']? = w.heap[g']?) : w'.ownsRow (g0 + 1) e size v n xs := by
  rcases h with ⟨h1, h | ⟨g, cap, cur, h2, h3, hg, h4⟩⟩
  · exact ⟨h1, .inl h⟩
  · exact ⟨h1, .inr ⟨g, cap, cur, h2, h3, (hf g (by omega)).trans hg, h4⟩⟩
def RRunesPost (rs : List Int) (rest : U.Bs) (w : World) (e : Ending) (w' : World) : Prop :=
  Below w.heap.size w w' ∧ (rest = [] → ∃ v, e = .returned (.tuple #[v, fltV 0 (-1)]) ∧ Sl w' 1 v rs.length (i32s rs)) ∧
    (rest ≠ [] → e = .returned (.tuple #[.slice none 0 0, fltV 3 (U.off rs rs.length)]))
section
attribute [local go_sem] ext_drop
set_option maxHeartbeats 2000000 in
theorem rrunes_calls {s : U.Bs} {rs : List Int} {rest : U.Bs} (h : U.Sp s rs rest) (w : World) (hs : s.length ≤ 35184372087808) :
    Calls Tryd.prog 14 #[.string ⟨s.toArray⟩] w (RRunesPost rs rest w) := by
  have H := Hd.mk h
  have hlen := h.length
  have hll := U.len_le_off rs
  clear h
  have HL := Hd.mk hlen
  have hle : U.off rs rs.length ≤ s.length := by omega
  clear hlen
  go_enter Tryd.func14, Tryd.ntmps14
  go_wp2_with fail
  go_loopw [2, 4, 5] (fun t v i wr => t = .slice none 0 0 ∧ ∃ k : Nat, k ≤ rs.length ∧ i = .int .i64 (U.off rs k) ∧ wr.ownsRow (w.heap.size + 1) 21 1 v k (i32s (rs.take k)) ∧ Blk wr w.heap.size 25 #[.int .i64 0, .int .i64 0] ∧ Below w.heap.size w wr) (fun _ _ i _ => s.length - (intOf i).toNat)
  case atStart => exact ⟨rfl, 0, by omega, rfl, World.ownsRow_nil _ _ _ _, Blk.new _ _ _, (by repeat (first | exact Below.refl _ _ | exact ex_drew (by assumption) | apply ex_drew | apply ex_drewN | apply ex_alloc | assumption))⟩
  case round =>
    obtain ⟨rfl, k, hk, rfl, hown, hblk, hbel⟩ := hrel
    have hb0 : w.heap.size + 1 ≤ wr.heap.size := by have := hblk.lt; omega
    have HB := Hd.mk hbel
    have HK := Hd.mk hblk
    have hgl := hblk.lt
    have hok : U.off rs k ≤ U.off rs rs.length := U.off_le hk
    by_cases hlt : k < rs.length
    · have hol : U.off rs k < U.off rs rs.length := U.off_lt hlt
      have HN := Hd.mk (H.out.next_at hlt)
      have HO := Hd.mk (U.off_succ hlt)
      have hw1 := U.wid_pos rs[k]
      have hw2 := U.wid_le rs[k]
      generalize hr : rs[k] = r at *
      have HR := Hd.mk hr
      clear hr
      have hlt' : U.off rs k < s.length := by omega
      have hn0 : ((U.wid r : Int) == 0) = false := by rw [beq_eq_false_iff_ne]; omega
      have HOS := Hd.mk hown
      clear hown hbel hblk
      go_wp2_with fail
      refine (first_at HN.out _ (by rw [List.length_drop]; omega)).mono ?_
      rintro e w1 ⟨rfl, hb1⟩
      have HB1 := Hd.mk (HB.out.trans (hb1.mono (by omega)))
      have HK1 := Hd.mk (HK.out.below hb1 hgl)
      have HO1 := Hd.mk (own_below HOS.out hb1)
      have hb2 : w.heap.size + 1 ≤ w1.heap.size := by have := hb1.size; omega
      clear hb1 HOS HK HB
      go_wp2_with (at_builtin; refine append_lit el_i32 #[.int .i32 r] HO1.out rfl rfl rfl rfl rfl (one1 rfl) (by unfold maxLen; omega) (by omega) hb2 ?_; intro v1 w2 hown1 hbel1 _)
      have e1 : i32s (rs.take (k + 1)) = i32s (rs.take k) ++ #[Value.int .i32 r].toList := by
        rw [List.take_succ_eq_append_getElem hlt, i32s, List.map_append, ← HR.out]; rfl
      rw [← e1] at hown1
      refine ⟨⟨rfl, k + 1, by omega, by rw [HO.out]; go_num, hown1, HK1.out.below hbel1 (by omega), HB1.out.trans (hbel1.mono (by omega))⟩, ?_⟩
      simp only [intOf]; omega
    · obtain rfl : k = rs.length := by omega
      rw [List.take_length] at hown
      have HF := Hd.mk hown
      clear hown hbel hblk
      by_cases hr : rest = []
      · have hge : ¬ U.off rs rs.length < s.length := by have := HL.out; rw [hr] at this; simp at this; omega
        have HRE := Hd.mk hr
        clear hlt hr
        go_wp2_with fail
        refine (bareR_calls 0 _).mono ?_
        rintro e w1 ⟨rfl, hb1⟩
        have hK1 := HK.out.below hb1 hgl
        have HF1 := Hd.mk (own_below HF.out hb1)
        have HK1 := Hd.mk hK1
        have hf := hK1.frozen
        have c0 := hK1.cell 0
        have c1 := hK1.cell 1
        simp only [List.getElem?_toArray, List.getElem?_cons_zero, List.getElem?_cons_succ] at c0 c1
        have HB1 := Hd.mk (HB.out.trans (hb1.mono (by omega)))
        clear hK1 hb1
        go_wp2_with fail
        refine HK1.out.set2 (F := fun W => bodyPost _ _ _ Exit.ret _ W) ?_
        intro w3 hC3 hB3 _ hfar
        have g0 := hC3.cell 0
        have g1 := hC3.cell 1
        simp only [List.getElem?_toArray, List.getElem?_cons_zero, List.getElem?_cons_succ] at g0 g1
        refine bodyPost_ret (v := .tuple #[u4, fltV 0 (-1)]) (by simp [results, fltV, Tryd.results14, go_sem, g0, g1]) rfl ?_
        exact ⟨HB1.out.trans (hB3 _ (Nat.le_refl _)), fun _ => ⟨u4, rfl, Sl.of_own (own_far HF1.out hfar)⟩, fun h => absurd HRE.out h⟩
      · have hlt' : U.off rs rs.length < s.length := by
          have := HL.out
          have h2 : 0 < rest.length := List.length_pos_iff.2 hr
          omega
        have HN := Hd.mk H.out.next_end
        have HR := Hd.mk hr
        clear hlt hr HF
        go_wp2_with fail
        refine (first_at HN.out _ (by rw [List.length_drop]; omega)).mono ?_
        rintro e w1 ⟨rfl, hb1⟩
        have HB1 := Hd.mk (HB.out.trans (hb1.mono (by omega)))
        have hK1 := HK.out.below hb1 hgl
        have HK1 := Hd.mk hK1
        have hf := hK1.frozen
        have c0 := hK1.cell 0
        have c1 := hK1.cell 1
        simp only [List.getElem?_toArray, List.getElem?_cons_zero, List.getElem?_cons_succ] at c0 c1
        clear hK1 hb1
        go_wp2_with fail
        refine HK1.out.set2 (F := fun W => bodyPost _ _ _ Exit.ret _ W) ?_
        intro w3 hC3 hB3 _ _
        have g0 := hC3.cell 0
        have g1 := hC3.cell 1
        simp only [List.getElem?_toArray, List.getElem?_cons_zero, List.getElem?_cons_succ] at g0 g1
        refine bodyPost_ret (v := .tuple #[.slice none 0 0, fltV 3 (U.off rs rs.length)]) (by simp [results, fltV, Tryd.results14, go_sem, g0, g1]) rfl ?_
        exact ⟨HB1.out.trans (hB3 _ (Nat.le_refl _)), fun h => absurd h HR.out, fun _ => rfl⟩
end
end Go.Proofs.YtgokmldngnmmhaaDoor
