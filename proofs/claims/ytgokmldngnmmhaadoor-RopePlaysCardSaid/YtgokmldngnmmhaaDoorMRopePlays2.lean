/- Several texts of the proof, one behind the other: UtfR, UtfK, OnlyL, RopeM, RopeA. -/
import Derived.Test.YtgokmldngnmmhaaDoorMRopePlays1
import Derived.Deep.RegionHeld3
import Derived.Deep.DrawnRows
import Derived.Deep.RegionWith
import Derived.OneCell
import Derived.Maps.AppendAt
/- Walks of utf.Runes and utf.Count. -/
namespace Go.Proofs.YtgokmldngnmmhaaDoor
open Go.RowKit
set_option maxRecDepth 100000
theorem ext_drop (s : U.Bs) (k : Nat) : (ByteArray.mk s.toArray).extract k s.length = ⟨(s.drop k).toArray⟩ := by
  have : (s.drop k).length ≤ s.length - k := by rw [List.length_drop]; exact Nat.le_refl _
  simp [ByteArray.extract, ByteArray.copySlice, List.take_of_length_le this]
theorem next_at {s : U.Bs} {r : Int} {n : Nat} (h : U.next s = (r, n)) (w : World) (hl : s.length ≤ 140737488351232) :
    Calls Tryd.prog 71 #[.string ⟨s.toArray⟩] w fun e w' => e = .returned (.tuple #[.int .i32 r, .int .i64 n]) ∧ w = w' := by
  have := next_calls s w hl
  unfold NextV at this
  rw [h] at this
  exact this
/-- An *api.At that lies in a block of its own. -/
def AtBlk (w : World) (g : Nat) (e p : Int) : Prop := w.heap[g]? = some (.cells #[.int .i64 e, .int .i64 p] 127 (0, 0))
theorem AtBlk.below {w w' : World} {g : Nat} {e p : Int} (h : AtBlk w g e p) (hb : Below w.heap.size w w') : AtBlk w' g e p :=
  (hb.block g (Array.getElem?_eq_some_iff.1 h).1).trans h
abbrev atV (g : Nat) : Value := .iface 126 (.pointer (some ⟨g, 0, none⟩))
theorem el_i32 : El Tryd.prog 22 21 1 4 := El.mk' Tryd.underlying22 (by kernel_rfl) (by decide)
def i32s (l : List Int) : List Value := l.map (.int .i32)
theorem i32s_one (l : List Int) : ∀ u ∈ i32s l, u.oneCell' = true := by
  intro u hu
  obtain ⟨r, _, rfl⟩ := List.mem_map.1 hu
  rfl
def RunesPost (_s : U.Bs) (rs : List Int) (rest : U.Bs) (w : World) (e : Ending) (w' : World) : Prop :=
  Below w.heap.size w w' ∧ (rest = [] → ∃ v, e = .returned (.tuple #[v, .nilIface]) ∧ Sl w' 1 v rs.length (i32s rs)) ∧
    (rest ≠ [] → ∃ g, e = .returned (.tuple #[.slice none 0 0, atV g]) ∧ AtBlk w' g 3 (U.off rs rs.length))
section
attribute [local go_sem] ext_drop
set_option maxHeartbeats 1000000 in
theorem runes_calls {s : U.Bs} {rs : List Int} {rest : U.Bs} (h : U.Sp s rs rest) (w : World) (hs : s.length ≤ 35184372087808) :
    Calls Tryd.prog 15 #[.string ⟨s.toArray⟩] w (RunesPost s rs rest w) := by
  have H := Hd.mk h
  have hlen := h.length
  have hll := U.len_le_off rs
  clear h
  have HL := Hd.mk hlen
  have hle : U.off rs rs.length ≤ s.length := by omega
  clear hlen
  have hsz : s.length ≤ 35184372087808 := hs
  clear hs
  go_enter Tryd.func15, Tryd.ntmps15
  go_wp2_with fail
  go_loopw [2, 3, 4, 5] (fun n e v i wr => n = .slice none 0 0 ∧ e = .nilIface ∧ ∃ k : Nat, k ≤ rs.length ∧ i = .int .i64 (U.off rs k) ∧ wr.ownsRow w.heap.size 21 1 v k (i32s (rs.take k)) ∧ Below w.heap.size w wr) (fun _ _ _ i _ => s.length - (intOf i).toNat)
  case atStart => exact ⟨rfl, rfl, 0, by omega, rfl, World.ownsRow_nil _ _ _ _, Below.refl _ _⟩
  case round =>
    obtain ⟨rfl, rfl, k, hk, rfl, hown, hbel⟩ := hrel
    have hok : U.off rs k ≤ U.off rs rs.length := U.off_le hk
    by_cases hlt : k < rs.length
    · have hol : U.off rs k < U.off rs rs.length := U.off_lt hlt
      have HN := Hd.mk (H.out.next_at hlt)
      have HO := Hd.mk (U.off_succ hlt)
      have hw1 := U.wid_pos rs[k]
      have hw2 := U.wid_le rs[k]
      generalize hr : rs[k] = r at *
      have HR := Hd.mk hr
      clear hr
      have hlt' : U.off rs k < s.length := by omega
      have hn0 : ((U.wid r : Int) == 0) = false := by rw [beq_eq_false_iff_ne]; omega
      have hb0 := hbel.size
      have HOS := Hd.mk hown
      clear hown
      go_wp2_with (first | (go_at_call 71; refine (next_at HN.out _ (by rw [List.length_drop]; omega)).mono ?_; rintro e w' ⟨rfl, rfl⟩) | (at_builtin; refine append_lit el_i32 #[.int .i32 r] HOS.out rfl rfl rfl rfl rfl (one1 rfl) (by unfold maxLen; omega) (by omega) hb0 ?_; intro v1 w1 hown1 hbel1 _))
      have e1 : i32s (rs.take (k + 1)) = i32s (rs.take k) ++ #[Value.int .i32 r].toList := by
        rw [List.take_succ_eq_append_getElem hlt, i32s, List.map_append, ← HR.out]; rfl
      rw [← e1] at hown1
      refine ⟨⟨rfl, rfl, k + 1, by omega, by rw [HO.out]; go_num, hown1, hbel.trans hbel1⟩, ?_⟩
      simp only [intOf]; omega
    · obtain rfl : k = rs.length := by omega
      have hfin : Sl wr 1 u4 rs.length (i32s rs) := by
        have := Sl.of_own hown
        rwa [List.take_length] at this
      clear hown
      by_cases hr : rest = []
      · subst hr
        have hge : ¬ U.off rs rs.length < s.length := by have := HL.out; simp at this; omega
        clear hlt
        go_wp2_with fail
        go_ret2
        exact ⟨hbel, fun _ => ⟨u4, rfl, hfin⟩, fun h => absurd rfl h⟩
      · have hlt' : U.off rs rs.length < s.length := by
          have := HL.out
          have h2 : 0 < rest.length := List.length_pos_iff.2 hr
          omega
        have HN := Hd.mk H.out.next_end
        have HR := Hd.mk hr
        have hb0 := hbel.size
        clear hlt hfin hr
        go_wp2_with (go_at_call 71; refine (next_at HN.out _ (by rw [List.length_drop]; omega)).mono ?_; rintro e w' ⟨rfl, rfl⟩)
        go_ret2
        exact ⟨hbel.alloc (by omega) _, fun h => absurd h HR.out, fun _ => ⟨wr.heap.size, rfl, heap_alloc_new wr _⟩⟩
end
end Go.Proofs.YtgokmldngnmmhaaDoor
/- The walk of utf.Count. -/
namespace Go.Proofs.YtgokmldngnmmhaaDoor
open Go.RowKit
set_option maxRecDepth 100000
attribute [local go_sem ↓] Go.wp_at_zero Go.wp_at_succ
/-- What runes count, together. -/
def cnt (rs : List Int) : Cn := rs.foldl (fun c r => c.add (oneC r (U.wid r))) Cn.zero
theorem cnt_snoc (rs : List Int) (r : Int) : cnt (rs ++ [r]) = (cnt rs).add (oneC r (U.wid r)) := by simp [cnt]
theorem cnt_in (rs : List Int) : (cnt rs).In (4 * rs.length) ∧ (cnt rs).b = U.off rs rs.length ∧ (cnt rs).r = rs.length := by
  suffices h : ∀ n (rs : List Int), rs.length = n → (cnt rs).In (4 * n) ∧ (cnt rs).b = (U.encs rs).length ∧ (cnt rs).r = n by
    obtain ⟨h1, h2, h3⟩ := h _ rs rfl
    exact ⟨h1, by rw [U.off_full]; exact h2, h3⟩
  intro n
  induction n with
  | zero =>
    intro rs h
    obtain rfl := List.eq_nil_of_length_eq_zero h
    exact ⟨⟨by decide, by decide, by decide, by decide, by decide, by decide, by decide, by decide⟩, rfl, rfl⟩
  | succ n ih =>
    intro rs h
    have hne : rs ≠ [] := by intro e; subst e; simp at h
    have e := List.dropLast_concat_getLast hne
    generalize rs.getLast hne = r at e
    generalize rs.dropLast = l at e
    subst e
    have hl : l.length = n := by simpa using h
    obtain ⟨⟨b0, b1, h0, h1, r0, r1, l0, l1⟩, h2, h3⟩ := ih l hl
    have hw := U.wid_le r
    rw [cnt_snoc]
    unfold oneC Cn.add
    refine ⟨⟨?_, ?_, ?_, ?_, ?_, ?_, ?_, ?_⟩, ?_, ?_⟩
    all_goals dsimp only
    all_goals try split
    all_goals try (rw [U.encs_append, List.length_append, U.encs_cons, U.encs_nil, List.append_nil, U.enc_length])
    all_goals omega
theorem oneC_in (r : Int) : (oneC r (U.wid r)).In 4 := by
  have hw := U.wid_le r
  unfold oneC
  refine ⟨?_, ?_, ?_, ?_, ?_, ?_, ?_, ?_⟩
  all_goals dsimp only
  all_goals try split
  all_goals omega
def cnA (x : Cn) : Array Value := #[.int .i64 x.b, .int .i64 x.h, .int .i64 x.r, .int .i64 x.l]
/-- A Counts variable in a block of its own. -/
def CnBlk (w : World) (g : Nat) (x : Cn) : Prop := w.heap[g]? = some (.cells #[.int .i64 x.b, .int .i64 x.h, .int .i64 x.r, .int .i64 x.l] 36 (0, 0))
theorem CnBlk.lt {w : World} {g : Nat} {x : Cn} (h : CnBlk w g x) : g < w.heap.size := (Array.getElem?_eq_some_iff.1 h).1
theorem CnBlk.below {w w' : World} {B g : Nat} {x : Cn} (h : CnBlk w g x) (hb : Below B w w') (hg : g < B) : CnBlk w' g x := (hb.block g hg).trans h
theorem CnBlk.cells {w : World} {g : Nat} {x : Cn} (h : CnBlk w g x) : w.cell? ⟨g, 0, none⟩ = some (.int .i64 x.b) ∧ w.cell? ⟨g, 1, none⟩ = some (.int .i64 x.h) ∧ w.cell? ⟨g, 2, none⟩ = some (.int .i64 x.r) ∧ w.cell? ⟨g, 3, none⟩ = some (.int .i64 x.l) := by
  unfold CnBlk at h
  simp [World.cell?, h]
theorem CnBlk.frozen {w : World} {g : Nat} {x : Cn} (h : CnBlk w g x) : ∀ i, w.frozen? ⟨g, i, none⟩ = false := by
  unfold CnBlk at h
  intro i
  simp [World.frozen?, h]
/-- The four stores of a Counts into its variable. -/
theorem CnBlk.set4 {F : World → Prop} {w : World} {g : Nat} {x y : Cn} (h : CnBlk w g x)
    (k : ∀ w3, CnBlk w3 g y → (∀ B, B ≤ g → Below B w w3) → w3.heap.size = w.heap.size → (∀ g', g' ≠ g → w3.heap[g']? = w.heap[g']?) → F w3) :
    F ((((w.setCell ⟨g, 0, none⟩ (.int .i64 y.b)).setCell ⟨g, 1, none⟩ (.int .i64 y.h)).setCell ⟨g, 2, none⟩ (.int .i64 y.r)).setCell ⟨g, 3, none⟩ (.int .i64 y.l)) := by
  refine k _ ?_ (fun B hB => ((((Below.refl B w).setCell hB _).setCell hB _).setCell hB _).setCell hB _) (by simp) (fun g' hg => ?_)
  · unfold CnBlk at h ⊢
    simp [World.setCell, Array.getElem?_modify, h]
  · rw [Below.heap_setCell _ _ _ _ hg, Below.heap_setCell _ _ _ _ hg, Below.heap_setCell _ _ _ _ hg, Below.heap_setCell _ _ _ _ hg]
def CountPost (rs : List Int) (rest : U.Bs) (w : World) (e : Ending) (w' : World) : Prop :=
  Below w.heap.size w w' ∧ (rest = [] → e = .returned (.tuple #[(cnt rs).v, .nilIface])) ∧
    (rest ≠ [] → ∃ g, e = .returned (.tuple #[Cn.zero.v, atV g]) ∧ AtBlk w' g 3 (U.off rs rs.length))
section
attribute [local go_sem] ext_drop
set_option maxHeartbeats 4000000 in
theorem count_calls {s : U.Bs} {rs : List Int} {rest : U.Bs} (h : U.Sp s rs rest) (w : World) (hs : s.length ≤ 35184372087808) :
    Calls Tryd.prog 17 #[.string ⟨s.toArray⟩] w (CountPost rs rest w) := by
  have H := Hd.mk h
  have hlen := h.length
  have hll := U.len_le_off rs
  clear h
  have HL := Hd.mk hlen
  have hle : U.off rs rs.length ≤ s.length := by omega
  clear hlen
  have hsz : s.length ≤ 35184372087808 := hs
  clear hs
  go_enter Tryd.func17, Tryd.ntmps17
  go_wp2_with fail
  go_loopw [3, 5] (fun n i wr => n = .nilIface ∧ ∃ k : Nat, k ≤ rs.length ∧ i = .int .i64 (U.off rs k) ∧ CnBlk wr w.heap.size Cn.zero ∧ CnBlk wr (w.heap.size + 1) (cnt (rs.take k)) ∧ Below w.heap.size w wr) (fun _ i _ => s.length - (intOf i).toNat)
  case atStart =>
    refine ⟨rfl, 0, by omega, rfl, ?_, ?_, ((Below.refl _ _).alloc (Nat.le_refl _) _).alloc (by simp) _⟩
    · unfold CnBlk; rw [Below.heap_alloc _ _ _ (by simp), heap_alloc_new]; rfl
    · have := heap_alloc_new (w.alloc (.cells #[.int .i64 0, .int .i64 0, .int .i64 0, .int .i64 0] 36)) (.cells #[.int .i64 0, .int .i64 0, .int .i64 0, .int .i64 0] 36)
      rw [World.size_alloc] at this
      exact this
  case round =>
    obtain ⟨rfl, k, hk, rfl, hz0, hc0, hbel⟩ := hrel
    have hok : U.off rs k ≤ U.off rs rs.length := U.off_le hk
    by_cases hlt : k < rs.length
    · have hol : U.off rs k < U.off rs rs.length := U.off_lt hlt
      have HN := Hd.mk (H.out.next_at hlt)
      have HO := Hd.mk (U.off_succ hlt)
      have hw1 := U.wid_pos rs[k]
      have hw2 := U.wid_le rs[k]
      generalize hr : rs[k] = r at *
      have HR := Hd.mk hr
      clear hr
      have hlt' : U.off rs k < s.length := by omega
      have hn0 : ((U.wid r : Int) == 0) = false := by rw [beq_eq_false_iff_ne]; omega
      have hb0 := hbel.size
      have HZ := Hd.mk hz0
      have HC := Hd.mk hc0
      have hcl := hc0.lt
      have HBEL := Hd.mk hbel
      obtain ⟨c0, c1, c2, c3⟩ := hc0.cells
      have hfz := hc0.frozen
      generalize hc : cnt (rs.take k) = c at *
      have HCC := Hd.mk hc
      clear hz0 hc0 hbel hc
      go_wp2_with (go_at_call 71; refine (next_at HN.out _ (by rw [List.length_drop]; omega)).mono ?_; rintro e w' ⟨rfl, rfl⟩)
      have HCd : Hd (CnBlk wr.drew (w.heap.size + 1) c) := ⟨HC.out⟩
      have HI1 := Hd.mk (HCC.out ▸ (cnt_in (rs.take k)).1)
      have hci : c.In 2305843009213693952 := by
        obtain ⟨⟨b0, b1, h0, h1, r0, r1, l0, l1⟩, _, _⟩ := cnt_in (rs.take k)
        rw [List.length_take] at b1 h1 r1 l1
        rw [← HCC.out]
        exact ⟨b0, by omega, h0, by omega, r0, by omega, l0, by omega⟩
      have hoi : (oneC r (U.wid r)).In 2305843009213693952 := by
        obtain ⟨b0, b1, h0, h1, r0, r1, l0, l1⟩ := oneC_in r
        exact ⟨b0, by omega, h0, by omega, r0, by omega, l0, by omega⟩
      have HCI := Hd.mk hci
      have HOI := Hd.mk hoi
      clear hci hoi HI1
      go_region_with (first | (go_at_call 72; refine (one_calls r (U.wid r) _).mono ?_; rintro e w1 ⟨rfl, hb1⟩; have hC1 := HCd.out.below hb1 (by simp; omega); obtain ⟨d0, d1, d2, d3⟩ := hC1.cells; have HC1 := Hd.mk hC1; have HB1 := Hd.mk hb1; clear hC1 hb1) | (go_at_call 25; refine (plus_calls c (oneC r (U.wid r)) _ HCI.out HOI.out).mono ?_; rintro e w2 ⟨rfl, hb2⟩; have hC2 := HC1.out.below hb2 HC1.out.lt; obtain ⟨g0, g1, g2, g3⟩ := hC2.cells; have hfz2 := hC2.frozen; have HC2 := Hd.mk hC2; have HB2 := Hd.mk hb2; clear hC2 hb2))
      all_goals
        refine HC2.out.set4 (F := Exit.then _ _ Exit.normal _) ?_
        intro w3 hC3 hB3 hs3 hf3
        have hb1 : Below wr.heap.size wr w1 := undrew HB1.out
        have hb2 := HB2.out
        have hz3 : CnBlk w3 w.heap.size Cn.zero := (hf3 _ (by omega)).trans ((HZ.out.below hb1 (by omega)).below hb2 (by have := hb1.size; omega))
        have hbel3 : Below w.heap.size w w3 := ((HBEL.out.trans (hb1.mono hb0)).trans (hb2.mono (by have := hb1.size; omega))).trans (hB3 _ (by omega))
        have HZ3 := Hd.mk hz3
        have HC3 := Hd.mk hC3
        have HB3 := Hd.mk hbel3
        clear hb1 hb2 hz3 hbel3 hC3 hB3 hs3 hf3 c0 c1 c2 c3 d0 d1 d2 d3 g0 g1 g2 g3 hfz hfz2
        go_wp2_with fail
        refine ⟨⟨rfl, k + 1, by omega, by rw [HO.out]; go_num, HZ3.out, ?_, HB3.out⟩, ?_⟩
        · rw [List.take_succ_eq_append_getElem hlt, cnt_snoc, HCC.out, HR.out]; exact HC3.out
        · simp only [intOf]; omega
    · obtain rfl : k = rs.length := by omega
      rw [List.take_length] at hc0
      have hb0 := hbel.size
      have hcl := hc0.lt
      have HBEL := Hd.mk hbel
      by_cases hr : rest = []
      · subst hr
        have hge : ¬ U.off rs rs.length < s.length := by have := HL.out; simp at this; omega
        obtain ⟨c0, c1, c2, c3⟩ := hc0.cells
        obtain ⟨z0, z1, z2, z3⟩ := hz0.cells
        have hfz := hz0.frozen
        have HZ := Hd.mk hz0
        clear hlt hc0 hz0 hbel
        go_wp2_with fail
        refine HZ.out.set4 (F := fun W => bodyPost _ _ _ Exit.ret _ W) (y := cnt rs) ?_
        intro w3 hC3 hB3 hs3 hf3
        obtain ⟨g0, g1, g2, g3⟩ := hC3.cells
        refine bodyPost_ret (v := .tuple #[(cnt rs).v, .nilIface]) (by simp [results, Tryd.results17, go_sem, g0, g1, g2, g3]) rfl ?_
        exact ⟨HBEL.out.trans (hB3 _ (Nat.le_refl _)), fun _ => rfl, fun h => absurd rfl h⟩
      · have hlt' : U.off rs rs.length < s.length := by
          have := HL.out
          have h2 : 0 < rest.length := List.length_pos_iff.2 hr
          omega
        have HN := Hd.mk H.out.next_end
        have HR := Hd.mk hr
        have hbm : Below wr.heap.size wr (wr.alloc (.cells #[.int .i64 3, .int .i64 (U.off rs rs.length)] 127)) := (Below.refl _ _).alloc (Nat.le_refl _) _
        have hz1 := hz0.below hbm (by omega)
        have HZ := Hd.mk hz1
        obtain ⟨z0, z1, z2, z3⟩ := hz1.cells
        have hfz := hz1.frozen
        clear hlt hr hbm hc0 hz0 hz1 hbel
        go_wp2_with (go_at_call 71; refine (next_at HN.out _ (by rw [List.length_drop]; omega)).mono ?_; rintro e w' ⟨rfl, rfl⟩)
        refine HZ.out.set4 (F := fun W => bodyPost _ _ _ Exit.ret _ W) (y := Cn.zero) ?_
        intro w3 hC3 hB3 hs3 hf3
        obtain ⟨g0, g1, g2, g3⟩ := hC3.cells
        refine bodyPost_ret (v := .tuple #[Cn.zero.v, atV wr.heap.size]) (by simp [results, Tryd.results17, go_sem, g0, g1, g2, g3, atV]) rfl ?_
        refine ⟨(HBEL.out.alloc (by omega) _).trans (hB3 _ (Nat.le_refl _)), fun h => absurd h HR.out, fun _ => ⟨wr.heap.size, rfl, ?_⟩⟩
        exact (hf3 _ (by omega)).trans (heap_alloc_new wr _)
end
end Go.Proofs.YtgokmldngnmmhaaDoor
/- Words for a world that has turned at given blocks alone. Over any program. -/
namespace Go.Proofs.YtgokmldngnmmhaaDoor
open Go.RowKit
/-- Of the blocks that there were, those of S alone may have turned. -/
structure Only (S : Nat → Prop) (w w' : World) : Prop where
  os : w'.os = w.os
  tape : w'.tape = w.tape
  output : w'.output = w.output
  size : w.heap.size ≤ w'.heap.size
  block : ∀ k, k < w.heap.size → ¬ S k → w'.heap[k]? = w.heap[k]?
section
variable {S S' : Nat → Prop} {a b c w w' : World}
theorem Only.refl (S : Nat → Prop) (w : World) : Only S w w := ⟨rfl, rfl, rfl, Nat.le_refl _, fun _ _ _ => rfl⟩
theorem Only.trans (h : Only S a b) (k : Only S b c) : Only S a c :=
  ⟨k.os.trans h.os, k.tape.trans h.tape, k.output.trans h.output, Nat.le_trans h.size k.size, fun i hi hs => (k.block i (Nat.lt_of_lt_of_le hi h.size) hs).trans (h.block i hi hs)⟩
theorem Only.mono (h : Only S a b) (hs : ∀ k, k < a.heap.size → S k → S' k) : Only S' a b :=
  ⟨h.os, h.tape, h.output, h.size, fun i hi hn => h.block i hi (fun e => hn (hs i hi e))⟩
/-- What comes behind may also turn whatever is new. -/
theorem Only.step (h : Only S a b) (k : Only S' b c) (hs : ∀ i, i < a.heap.size → S' i → S i) : Only S a c :=
  ⟨k.os.trans h.os, k.tape.trans h.tape, k.output.trans h.output, Nat.le_trans h.size k.size, fun i hi hn => (k.block i (Nat.lt_of_lt_of_le hi h.size) (fun e => hn (hs i hi e))).trans (h.block i hi hn)⟩
theorem Only.alloc (h : Only S a b) (o : Obj) : Only S a (b.alloc o) :=
  ⟨h.os, h.tape, h.output, by have := h.size; simp; omega, fun i hi hn => (Below.heap_alloc b o i (Nat.lt_of_lt_of_le hi h.size)).trans (h.block i hi hn)⟩
theorem Only.setCell (h : Only S a b) {p : Addr} (hp : S p.block ∨ a.heap.size ≤ p.block) (u : Value) : Only S a (b.setCell p u) :=
  ⟨h.os, h.tape, h.output, by have := h.size; simp; omega, fun i hi hn => (Below.heap_setCell b p u i (fun e => by
    subst e
    rcases hp with hp | hp
    · exact hn hp
    · omega)).trans (h.block i hi hn)⟩
theorem Only.drew (h : Only S a b) : Only S a b.drew := ⟨h.os, h.tape, h.output, h.size, h.block⟩
theorem Only.drewN (n : Nat) (h : Only S a b) : Only S a (b.drewN n) := ⟨h.os, h.tape, h.output, h.size, h.block⟩
theorem Only.of_below (h : Below w.heap.size w w') : Only S w w' := ⟨h.os, h.tape, h.output, h.size, fun i hi _ => h.block i hi⟩
theorem Only.then_below (h : Only S a b) (k : Below b.heap.size b c) : Only S a c := h.trans (Only.of_below k)
theorem Only.of_grown {row : Option Nat} (h : w.grownBy w' row) : Only (fun k => some k = row) w w' := ⟨h.os, h.tape, h.output, h.size, h.block⟩
theorem Only.below {B : Nat} (h : Only S w w') (hB : B ≤ w.heap.size) (hs : ∀ k, k < B → ¬ S k) : Below B w w' := ⟨h.os, h.tape, h.output, h.size, fun i hi => h.block i (by omega) (hs i hi)⟩
end
section
variable {S : Nat → Prop} {w w' : World} {g : Nat} {t : TypeId} {cs : Array Value}
theorem Blk.only (h : Blk w g t cs) (ho : Only S w w') (hg : ¬ S g) : Blk w' g t cs := (ho.block g h.lt hg).trans h
theorem own_only {base : Nat} {e : TypeId} {size : Nat} {v : Value} {n : Nat} {xs : List Value} (h : w.ownsRow base e size v n xs) (ho : Only S w w') (hg : ∀ k, v.ownBlock = some k → ¬ S k) : w'.ownsRow base e size v n xs := by
  rcases h with ⟨h1, h | ⟨g, cap, cur, rfl, h3, hb, h4⟩⟩
  · exact ⟨h1, .inl h⟩
  · exact ⟨h1, .inr ⟨g, cap, cur, rfl, h3, (ho.block g (Array.getElem?_eq_some_iff.1 hb).1 (hg g rfl)).trans hb, h4⟩⟩
theorem own_form {base : Nat} {e : TypeId} {size : Nat} {v : Value} {n : Nat} {xs : List Value} (h : w.ownsRow base e size v n xs) : ∃ A c, v = .slice A n c := by
  rcases h with ⟨h1, ⟨rfl, rfl⟩ | ⟨g, cap, cur, rfl, _⟩⟩
  · exact ⟨none, 0, rfl⟩
  · exact ⟨_, _, rfl⟩
theorem own_mono {base base' : Nat} {e : TypeId} {size : Nat} {v : Value} {n : Nat} {xs : List Value} (h : w.ownsRow base e size v n xs) (hb : base' ≤ base) : w.ownsRow base' e size v n xs := by
  rcases h with ⟨h1, h | ⟨g, cap, cur, rfl, h3, hb', h4⟩⟩
  · exact ⟨h1, .inl h⟩
  · exact ⟨h1, .inr ⟨g, cap, cur, rfl, by omega, hb', h4⟩⟩
theorem Sl.only {size n : Nat} {v : Value} {xs : List Value} (h : Sl w size v n xs) (ho : Only S w w') (hg : ∀ A : Addr, ∀ c, v = .slice (some A) n c → 0 < n → ¬ S A.block) : Sl w' size v n xs := by
  obtain ⟨A, c, rfl, h2, h3, h4, h4', h5⟩ := h
  refine ⟨A, c, rfl, h2, h3, h4, h4', fun hn => ?_⟩
  obtain ⟨ad, rfl, hb1, hc⟩ := h5 hn
  refine ⟨ad, rfl, Nat.lt_of_lt_of_le hb1 ho.size, fun j u hu => ?_⟩
  rw [← hc j u hu]
  exact World.cell?_of_block (by rw [block_of_add]; exact ho.block _ hb1 (hg ad c rfl hn))
theorem Blk.put1 {x y : Value} (h : Blk w g t #[x]) : Blk (w.setCell ⟨g, 0, none⟩ y) g t #[y] := h.set_ 0 y
/-- A store into a variable of one cell: the world behind it under a name. -/
theorem Blk.set1 {F : World → Prop} {x y : Value} (h : Blk w g t #[x]) (k : ∀ w3, Blk w3 g t #[y] → Only (fun j => j = g) w w3 → w3.heap.size = w.heap.size → F w3) : F (w.setCell ⟨g, 0, none⟩ y) :=
  k _ (h.set_ 0 y) ((Only.refl (fun j => j = g) w).setCell (p := ⟨g, 0, none⟩) (.inl rfl) y) (by simp)
end
section
variable {P : Program} {ops : Array Oper} {Q : Exit → Act → World → Prop} {a : Act} {W : World} {rest : List Oper} {o : Oper} {s x : Operand} {t e : TypeId} {size bytes base n m : Nat} {v : Value} {xs : List Value}
/-- append(own, x, ..), as append_lit; and where the new row lies. -/
theorem append_lit' (E : El P t e size bytes) (cs : Array Value) (hown : W.ownsRow base e size v n xs) (hgd : o.guard = none)
    (ho : o.op = .call { callee := .builtin .append, args := #[s, x], argTypes := #[t, t] }) (hs : a.eval s = v) {H : Nat} (hx : a.eval x = .slice (some ⟨H, 0, none⟩) m m) (hH : W.heap.size = H)
    (hl : cs.size = m * size) (h1 : ∀ u ∈ cs.toList, u.oneCell' = true) (h63 : n + m ≤ maxLen) (hbytes : (n + m) * bytes ≤ 140737488355328) (hbase : base ≤ W.heap.size)
    (h : ∀ v' w', w'.ownsRow base e size v' (n + m) (xs ++ cs.toList) → Below base W w' → W.grownBy w' v.ownBlock → (∀ k, v'.ownBlock = some k → v.ownBlock = some k ∨ W.heap.size ≤ k) → wpList P ops Q rest (a.put o.dst v') w') : wpList P ops Q (o :: rest) a (W.alloc (.cells cs e)) := by
  subst hH
  obtain ⟨i, z, hi, hz, hsi, hby, hzs⟩ := E.hi
  refine wpList_append_own_at _ hgd s x t ho base e i z size bytes E.ht hi hz hsi hby hzs E.pos v n xs hs (hown.alloc _) ⟨W.heap.size, 0, none⟩ m m cs.toList hx (by simpa using hl) ?_ h1 h63 hbytes (by simp; omega) ?_
  · intro j u hu
    have : (⟨W.heap.size, 0, none⟩ : Addr).add j = ⟨W.heap.size, j, none⟩ := by unfold Addr.add; split <;> simp_all
    rw [this, World.cell?_alloc_new]
    simpa using hu
  · intro v' w' ho' hg _ hk
    have hlt := hown.lt
    have hg' : W.grownBy w' v.ownBlock := ⟨hg.os, hg.tape, hg.output, Nat.le_trans (by simp) hg.size, fun k hk hne => (hg.block k (by simp; omega) hne).trans (Below.heap_alloc W _ k hk)⟩
    refine h v' w' ho' ⟨hg'.os, hg'.tape, hg'.output, hg'.size, fun k hk => ?_⟩ hg' (fun k hk' => ?_)
    · exact hg'.block k (by omega) (fun e => by have := hlt k e.symm; omega)
    · rcases hk with hk | hk
      · exact .inl (hk ▸ hk')
      · rw [hk] at hk'
        have := Option.some.inj hk'
        simp at this
        exact .inr (by omega)
end
end Go.Proofs.YtgokmldngnmmhaaDoor
/- A rope's tree: in Lean, and in memory. -/
namespace Go.Proofs.YtgokmldngnmmhaaDoor
open Go.RowKit
set_option maxRecDepth 100000
theorem cn_ext {x y : Cn} (h1 : x.b = y.b) (h2 : x.h = y.h) (h3 : x.r = y.r) (h4 : x.l = y.l) : x = y := by
  cases x; cases y; simp_all
theorem cnt_append (a b : List Int) : cnt (a ++ b) = (cnt a).add (cnt b) := by
  suffices h : ∀ n (b : List Int), b.length = n → cnt (a ++ b) = (cnt a).add (cnt b) from h _ b rfl
  intro n
  induction n with
  | zero =>
    intro b hb
    obtain rfl := List.length_eq_zero_iff.1 hb
    rw [List.append_nil]
    refine cn_ext ?_ ?_ ?_ ?_ <;> simp [Cn.add, cnt, Cn.zero]
  | succ n ih =>
    intro b hb
    obtain ⟨c, r, rfl⟩ : ∃ c r, b = c ++ [r] := by
      rcases List.eq_nil_or_concat b with rfl | ⟨c, r, rfl⟩
      · simp at hb
      · exact ⟨c, r, by simp⟩
    rw [← List.append_assoc, cnt_snoc, ih c (by simp at hb; omega), cnt_snoc]
    refine cn_ext ?_ ?_ ?_ ?_ <;> simp [Cn.add, Int.add_assoc]
theorem cnt_big {rs : List Int} (h : rs.length ≤ 1099511627776) : (cnt rs).In 2305843009213693952 := by
  obtain ⟨⟨b0, b1, h0, h1, r0, r1, l0, l1⟩, _, _⟩ := cnt_in rs
  exact ⟨b0, by omega, h0, by omega, r0, by omega, l0, by omega⟩
/-- A tree: each node with its block and the runes of its chunk. -/
inductive RT where
  | nil : RT
  | node (g : Nat) (rs : List Int) (l r : RT) : RT
namespace RT
def high : RT → Nat
  | nil => 0
  | node _ _ l r => 1 + max l.high r.high
def nodes : RT → List (Nat × List Int)
  | nil => []
  | node g rs l r => l.nodes ++ (g, rs) :: r.nodes
def runes : RT → List Int
  | nil => []
  | node _ rs l r => l.runes ++ rs ++ r.runes
def blocks (t : RT) : List Nat := t.nodes.map Prod.fst
def pa : RT → Option Addr
  | nil => none
  | node g _ _ _ => some ⟨g, 0, none⟩
def ptr (t : RT) : Value := .pointer t.pa
theorem ptr_nil : nil.ptr = .pointer none := rfl
theorem ptr_node (g : Nat) (rs : List Int) (l r : RT) : (node g rs l r).ptr = .pointer (some ⟨g, 0, none⟩) := rfl
@[simp] theorem high_nil : nil.high = 0 := rfl
@[simp] theorem high_node (g : Nat) (rs : List Int) (l r : RT) : (node g rs l r).high = 1 + max l.high r.high := rfl
@[simp] theorem nodes_nil : nil.nodes = [] := rfl
@[simp] theorem nodes_node (g : Nat) (rs : List Int) (l r : RT) : (node g rs l r).nodes = l.nodes ++ (g, rs) :: r.nodes := rfl
@[simp] theorem blocks_nil : nil.blocks = [] := rfl
@[simp] theorem blocks_node (g : Nat) (rs : List Int) (l r : RT) : (node g rs l r).blocks = l.blocks ++ g :: r.blocks := by simp [blocks]
@[simp] theorem runes_nil : nil.runes = [] := rfl
@[simp] theorem runes_node (g : Nat) (rs : List Int) (l r : RT) : (node g rs l r).runes = l.runes ++ rs ++ r.runes := rfl
theorem runes_nodes (t : RT) : t.runes = t.nodes.flatMap Prod.snd := by
  induction t with
  | nil => rfl
  | node g rs l r ihl ihr => simp [ihl, ihr]
theorem high_le (t : RT) : t.high ≤ t.nodes.length := by
  induction t with
  | nil => simp
  | node g rs l r ihl ihr => simp; omega
end RT
/-- The cells of a node. -/
def nodeV (rs : List Int) (all : Cn) (l r : Value) (h : Int) : Array Value :=
  #[.string ⟨(U.encs rs).toArray⟩, .int .i64 (cnt rs).b, .int .i64 (cnt rs).h, .int .i64 (cnt rs).r, .int .i64 (cnt rs).l, .int .i64 all.b, .int .i64 all.h, .int .i64 all.r, .int .i64 all.l, l, r, .int .i64 h]
/-- The tree in memory. -/
def AtT (w : World) : RT → Prop
  | .nil => True
  | .node g rs l r => Blk w g 177 (nodeV rs (cnt (l.runes ++ rs ++ r.runes)) l.ptr r.ptr ((1 + max l.high r.high : Nat) : Int)) ∧ AtT w l ∧ AtT w r
/-- .. whose root's counts and height are not right yet. -/
def RawT (w : World) (g : Nat) (rs : List Int) (l r : RT) : Prop :=
  (∃ all h, Blk w g 177 (nodeV rs all l.ptr r.ptr h)) ∧ AtT w l ∧ AtT w r
theorem AtT.raw {w : World} {g : Nat} {rs : List Int} {l r : RT} (h : AtT w (.node g rs l r)) : RawT w g rs l r := ⟨⟨_, _, h.1⟩, h.2⟩
theorem AtT.only {S : Nat → Prop} {w w' : World} {t : RT} (h : AtT w t) (ho : Only S w w') (hs : ∀ b ∈ t.blocks, ¬ S b) : AtT w' t := by
  induction t with
  | nil => trivial
  | node g rs l r ihl ihr =>
    simp only [RT.blocks_node, List.mem_append, List.mem_cons] at hs
    exact ⟨h.1.only ho (hs g (.inr (.inl rfl))), ihl h.2.1 (fun b hb => hs b (.inl hb)), ihr h.2.2 (fun b hb => hs b (.inr (.inr hb)))⟩
theorem AtT.below {w w' : World} {t : RT} (h : AtT w t) (hb : Below w.heap.size w w') : AtT w' t := h.only (Only.of_below (S := fun _ => False) hb) (fun _ _ h => h)
theorem AtT.lt {w : World} {t : RT} (h : AtT w t) : ∀ b ∈ t.blocks, b < w.heap.size := by
  induction t with
  | nil => simp
  | node g rs l r ihl ihr =>
    simp only [RT.blocks_node, List.mem_append, List.mem_cons]
    rintro b (hb | rfl | hb)
    · exact ihl h.2.1 b hb
    · exact h.1.lt
    · exact ihr h.2.2 b hb
theorem nodeV_cell {w : World} {g : Nat} {rs : List Int} {all : Cn} {l r : Value} {h : Int} (hb : Blk w g 177 (nodeV rs all l r h)) :
    w.cell? ⟨g, 0, none⟩ = some (.string ⟨(U.encs rs).toArray⟩) ∧ w.cell? ⟨g, 1, none⟩ = some (.int .i64 (cnt rs).b) ∧ w.cell? ⟨g, 2, none⟩ = some (.int .i64 (cnt rs).h) ∧ w.cell? ⟨g, 3, none⟩ = some (.int .i64 (cnt rs).r) ∧ w.cell? ⟨g, 4, none⟩ = some (.int .i64 (cnt rs).l) ∧
    w.cell? ⟨g, 5, none⟩ = some (.int .i64 all.b) ∧ w.cell? ⟨g, 6, none⟩ = some (.int .i64 all.h) ∧ w.cell? ⟨g, 7, none⟩ = some (.int .i64 all.r) ∧ w.cell? ⟨g, 8, none⟩ = some (.int .i64 all.l) ∧
    w.cell? ⟨g, 9, none⟩ = some l ∧ w.cell? ⟨g, 10, none⟩ = some r ∧ w.cell? ⟨g, 11, none⟩ = some (.int .i64 h) :=
  ⟨hb.cell 0, hb.cell 1, hb.cell 2, hb.cell 3, hb.cell 4, hb.cell 5, hb.cell 6, hb.cell 7, hb.cell 8, hb.cell 9, hb.cell 10, hb.cell 11⟩
end Go.Proofs.YtgokmldngnmmhaaDoor
/- high, all, fit, turnLeft, turnRight, level. -/
namespace Go.Proofs.YtgokmldngnmmhaaDoor
open Go.RowKit
set_option maxRecDepth 100000
theorem high_calls {t : RT} {w : World} (h : AtT w t) : Calls Tryd.prog 113 #[t.ptr] w fun e w' => e = .returned (.int .i64 t.high) ∧ Below w.heap.size w w' := by
  cases t with
  | nil =>
    rw [RT.ptr_nil]
    go_enter Tryd.func113, Tryd.ntmps113
    go_wp2_with fail
    go_ret
    exact ⟨rfl, Below.refl _ _⟩
  | node g rs l r =>
    have hc := nodeV_cell h.1
    have hl := h.1.lt
    have h11 := hc.2.2.2.2.2.2.2.2.2.2.2
    rw [RT.ptr_node]
    simp only [RT.high_node]
    generalize (1 + max l.high r.high) = m at *
    clear hc h
    go_enter Tryd.func113, Tryd.ntmps113
    go_wp2_with fail
    go_ret
    exact ⟨rfl, Below.refl _ _⟩
theorem all_calls {t : RT} {w : World} (h : AtT w t) : Calls Tryd.prog 111 #[t.ptr] w fun e w' => e = .returned (cnt t.runes).v ∧ Below w.heap.size w w' := by
  cases t with
  | nil =>
    rw [RT.ptr_nil]
    go_enter Tryd.func111, Tryd.ntmps111
    go_wp2_with fail
    refine bodyPost_ret (v := (cnt []).v) (by simp [results, Tryd.results111, go_sem, cnt, Cn.zero]) rfl ?_
    exact ⟨rfl, (by repeat (first | exact Below.refl _ _ | exact ex_drew (by assumption) | apply ex_drew | apply ex_drewN | apply ex_alloc | assumption))⟩
  | node g rs l r =>
    obtain ⟨-, -, -, -, -, h5, h6, h7, h8, -⟩ := nodeV_cell h.1
    have hl := h.1.lt
    rw [RT.ptr_node]
    simp only [RT.runes_node]
    generalize cnt (l.runes ++ rs ++ r.runes) = c at *
    clear h
    go_enter Tryd.func111, Tryd.ntmps111
    go_wp2_with fail
    refine bodyPost_ret (v := c.v) (by simp [results, Tryd.results111, go_sem]) rfl ?_
    exact ⟨rfl, (by repeat (first | exact Below.refl _ _ | exact ex_drew (by assumption) | apply ex_drew | apply ex_drewN | apply ex_alloc | assumption))⟩
/-- Bounds of a tree. -/
structure Sm (rs : List Int) (n : Nat) : Prop where
  len : rs.length ≤ 1099511627776
  many : n ≤ 1099511627776
/-- A node whose root is being made right. -/
def FS (w : World) (g : Nat) (rs : List Int) (lp rp : Value) (p : Cn → Prop) (w' : World) : Prop := Only (fun k => k = g) w w' ∧ ∃ c m, p c ∧ Blk w' g 177 (nodeV rs c lp rp m)
/-- What a cell holds. -/
def cv (w : World) (g i : Nat) : Value := (w.cell? ⟨g, i, none⟩).getD undef
theorem cv_of {w : World} {g i : Nat} {v : Value} (h : w.cell? ⟨g, i, none⟩ = some v) : w.cell? ⟨g, i, none⟩ = some (cv w g i) := by unfold cv; rw [h]; rfl
/-- .. and what is read of it. -/
abbrev FSx (w : World) (g : Nat) (rs : List Int) (lp rp : Value) (p : Cn → Prop) (w' : World) : Prop := FS w g rs lp rp p w' ∧ w'.cell? ⟨g, 1, none⟩ = some (.int .i64 (cnt rs).b) ∧ w'.cell? ⟨g, 2, none⟩ = some (.int .i64 (cnt rs).h) ∧
  w'.cell? ⟨g, 3, none⟩ = some (.int .i64 (cnt rs).r) ∧ w'.cell? ⟨g, 4, none⟩ = some (.int .i64 (cnt rs).l) ∧ w'.cell? ⟨g, 9, none⟩ = some lp ∧ w'.cell? ⟨g, 10, none⟩ = some rp ∧ g < w'.heap.size ∧
  w'.cell? ⟨g, 5, none⟩ = some (cv w' g 5) ∧ w'.cell? ⟨g, 6, none⟩ = some (cv w' g 6) ∧ w'.cell? ⟨g, 7, none⟩ = some (cv w' g 7) ∧ w'.cell? ⟨g, 8, none⟩ = some (cv w' g 8) ∧ w'.cell? ⟨g, 11, none⟩ = some (cv w' g 11) ∧
  ∀ i, w'.frozen? ⟨g, i, none⟩ = false
section
variable {w w1 w2 : World} {g : Nat} {rs : List Int} {lp rp : Value} {p : Cn → Prop}
theorem FS.x (h : FS w g rs lp rp p w1) : FSx w g rs lp rp p w1 := by
  obtain ⟨ho, c, m, hp, hb⟩ := h
  obtain ⟨-, h1, h2, h3, h4, h5, h6, h7, h8, h9, h10, h11⟩ := nodeV_cell hb
  exact ⟨⟨ho, c, m, hp, hb⟩, h1, h2, h3, h4, h9, h10, hb.lt, cv_of h5, cv_of h6, cv_of h7, cv_of h8, cv_of h11, hb.frozen⟩
theorem FSx.drew (h : FSx w g rs lp rp p w1) : FSx w g rs lp rp p w1.drew := FS.x ⟨h.1.1.drew, h.1.2⟩
theorem FSx.call (h : FSx w g rs lp rp p w1) (hb : Below w1.heap.size w1 w2) : FSx w g rs lp rp p w2 := by
  obtain ⟨⟨ho, c, m, hp, hk⟩, -⟩ := h
  exact FS.x ⟨ho.then_below hb, c, m, hp, hk.below hb hk.lt⟩
theorem FSx.all (h : FSx w g rs lp rp p w1) {q : Cn → Prop} {x : Cn} (hq : q x) : FSx w g rs lp rp q ((((w1.setCell ⟨g, 5, none⟩ (.int .i64 x.b)).setCell ⟨g, 6, none⟩ (.int .i64 x.h)).setCell ⟨g, 7, none⟩ (.int .i64 x.r)).setCell ⟨g, 8, none⟩ (.int .i64 x.l)) := by
  obtain ⟨⟨ho, c, m, hp, hk⟩, -⟩ := h
  exact FS.x ⟨(((ho.setCell (p := ⟨g, 5, none⟩) (.inl rfl) _).setCell (p := ⟨g, 6, none⟩) (.inl rfl) _).setCell (p := ⟨g, 7, none⟩) (.inl rfl) _).setCell (p := ⟨g, 8, none⟩) (.inl rfl) _, x, m, hq, (((hk.set_ 5 _).set_ 6 _).set_ 7 _).set_ 8 _⟩
theorem FSx.high (h : FSx w g rs lp rp p w1) (x : Int) : FSx w g rs lp rp p (w1.setCell ⟨g, 11, none⟩ (.int .i64 x)) ∧ ∃ c, p c ∧ Blk (w1.setCell ⟨g, 11, none⟩ (.int .i64 x)) g 177 (nodeV rs c lp rp x) := by
  obtain ⟨⟨ho, c, m, hp, hk⟩, -⟩ := h
  have := hk.set_ 11 (.int .i64 x)
  exact ⟨FS.x ⟨ho.setCell (p := ⟨g, 11, none⟩) (.inl rfl) _, c, x, hp, this⟩, c, hp, this⟩
theorem FSx.tree {t : RT} (h : FSx w g rs lp rp p w1) (ht : AtT w t) (hg : g ∉ t.blocks) : AtT w1 t := ht.only h.1.1 (fun _ hb e => hg (e ▸ hb))
end
set_option maxHeartbeats 1000000 in
theorem fit_calls {g : Nat} {rs : List Int} {l r : RT} {w : World} (h : RawT w g rs l r) (hgl : g ∉ l.blocks) (hgr : g ∉ r.blocks) (hb : Sm (l.runes ++ rs ++ r.runes) (l.nodes.length + r.nodes.length)) :
    Calls Tryd.prog 141 #[.pointer (some ⟨g, 0, none⟩)] w fun e w' => e = .returned (.pointer (some ⟨g, 0, none⟩)) ∧ AtT w' (.node g rs l r) ∧ Only (fun k => k = g) w w' := by
  obtain ⟨⟨c, m, hblk⟩, hl, hr⟩ := h
  have HL := Hd.mk hl
  have HR := Hd.mk hr
  have HGL := Hd.mk hgl
  have HGR := Hd.mk hgr
  have HS0 : Hd (FSx w g rs l.ptr r.ptr (fun _ => True) w) := ⟨FS.x ⟨Only.refl _ _, c, m, trivial, hblk⟩⟩
  have hlen := hb.len
  simp only [List.length_append] at hlen
  have HL1 : Hd ((cnt l.runes).In 2305843009213693952) := ⟨cnt_big (by omega)⟩
  have HL2 : Hd ((cnt rs).In 2305843009213693952) := ⟨cnt_big (by omega)⟩
  have HL3 : Hd ((cnt r.runes).In 2305843009213693952) := ⟨cnt_big (by omega)⟩
  have HL4 : Hd (((cnt l.runes).add (cnt rs)).In 2305843009213693952) := ⟨by rw [← cnt_append]; exact cnt_big (by simp; omega)⟩
  have HCA : Hd (((cnt l.runes).add (cnt rs)).add (cnt r.runes) = cnt (l.runes ++ rs ++ r.runes)) := ⟨by rw [cnt_append, cnt_append]⟩
  have hh1 := l.high_le
  have hh2 := r.high_le
  have hm := hb.many
  clear hl hr hblk hgl hgr hb hlen
  obtain ⟨s0, s1, s2, s3, s4, s9, s10, slt, s5, s6, s7, s8, s11, sf⟩ := HS0.out
  clear s0
  go_enter Tryd.func141, Tryd.ntmps141
  go_wp2_with fail
  go_region_held3 (fun w' => FS w g rs l.ptr r.ptr (fun _ => True) w' ∧ w'.cell? ⟨g, 1, none⟩ = some (.int .i64 (cnt rs).b) ∧ w'.cell? ⟨g, 2, none⟩ = some (.int .i64 (cnt rs).h) ∧
  w'.cell? ⟨g, 3, none⟩ = some (.int .i64 (cnt rs).r) ∧ w'.cell? ⟨g, 4, none⟩ = some (.int .i64 (cnt rs).l) ∧ w'.cell? ⟨g, 9, none⟩ = some l.ptr ∧ w'.cell? ⟨g, 10, none⟩ = some r.ptr ∧ g < w'.heap.size ∧
  w'.cell? ⟨g, 5, none⟩ = some (cv w' g 5) ∧ w'.cell? ⟨g, 6, none⟩ = some (cv w' g 6) ∧ w'.cell? ⟨g, 7, none⟩ = some (cv w' g 7) ∧ w'.cell? ⟨g, 8, none⟩ = some (cv w' g 8) ∧ w'.cell? ⟨g, 11, none⟩ = some (cv w' g 11) ∧
  ∀ i, w'.frozen? ⟨g, i, none⟩ = false)
    (first | exact HS0.out.drew | exact FSx.call (by assumption) (by assumption) | exact FSx.all (by assumption) trivial | assumption)
    (first
      | (go_at_call_of 111 (RT.ptr l); refine (all_calls (t := l) ?_).mono ?_; exact FSx.tree (by assumption) HL.out HGL.out; rintro e w' ⟨rfl, hb'⟩)
      | (go_at_call_of 111 (RT.ptr r); refine (all_calls (t := r) ?_).mono ?_; exact FSx.tree (by assumption) HR.out HGR.out; rintro e w' ⟨rfl, hb'⟩)
      | (go_at_call_of 25 (cnt r.runes); refine (plus_calls ((cnt l.runes).add (cnt rs)) (cnt r.runes) _ HL4.out HL3.out).mono ?_; rintro e w' ⟨rfl, hb'⟩)
      | (go_at_call_of 25 (cnt rs); refine (plus_calls (cnt l.runes) (cnt rs) _ HL1.out HL2.out).mono ?_; rintro e w' ⟨rfl, hb'⟩))
  have HX := Hd.mk (FSx.all (q := fun c => c = cnt (l.runes ++ rs ++ r.runes)) (((HS0.out.drew.call (by assumption)).call (by assumption)).call (by assumption) |>.call hb') HCA.out)
  generalize ((((w'.setCell ⟨g, 5, none⟩ (.int .i64 (((cnt l.runes).add (cnt rs)).add (cnt r.runes)).b)).setCell ⟨g, 6, none⟩ (.int .i64 (((cnt l.runes).add (cnt rs)).add (cnt r.runes)).h)).setCell ⟨g, 7, none⟩ (.int .i64 (((cnt l.runes).add (cnt rs)).add (cnt r.runes)).r)).setCell ⟨g, 8, none⟩ (.int .i64 (((cnt l.runes).add (cnt rs)).add (cnt r.runes)).l)) = wp at HX ⊢
  clear s1 s2 s3 s4 s9 s10 slt s5 s6 s7 s8 s11 sf hb'
  obtain ⟨s0, s1, s2, s3, s4, s9, s10, slt, s5, s6, s7, s8, s11, sf⟩ := HX.out
  clear s0
  go_wp2_with fail
  go_region_held3 (fun w' => FS w g rs l.ptr r.ptr (fun c => c = cnt (l.runes ++ rs ++ r.runes)) w' ∧ w'.cell? ⟨g, 1, none⟩ = some (.int .i64 (cnt rs).b) ∧ w'.cell? ⟨g, 2, none⟩ = some (.int .i64 (cnt rs).h) ∧ w'.cell? ⟨g, 3, none⟩ = some (.int .i64 (cnt rs).r) ∧ w'.cell? ⟨g, 4, none⟩ = some (.int .i64 (cnt rs).l) ∧ w'.cell? ⟨g, 9, none⟩ = some l.ptr ∧ w'.cell? ⟨g, 10, none⟩ = some r.ptr ∧ g < w'.heap.size ∧ w'.cell? ⟨g, 5, none⟩ = some (cv w' g 5) ∧ w'.cell? ⟨g, 6, none⟩ = some (cv w' g 6) ∧ w'.cell? ⟨g, 7, none⟩ = some (cv w' g 7) ∧ w'.cell? ⟨g, 8, none⟩ = some (cv w' g 8) ∧ w'.cell? ⟨g, 11, none⟩ = some (cv w' g 11) ∧ ∀ i, w'.frozen? ⟨g, i, none⟩ = false)
    (first | exact HX.out.drew | exact FSx.call (by assumption) (by assumption) | exact (FSx.high (by assumption) _).1 | assumption)
    (first
      | (go_at_call_of 113 (RT.ptr l); refine (high_calls (t := l) ?_).mono ?_; exact FSx.tree (by assumption) HL.out HGL.out; rintro e w' ⟨rfl, hb'⟩)
      | (go_at_call_of 113 (RT.ptr r); refine (high_calls (t := r) ?_).mono ?_; exact FSx.tree (by assumption) HR.out HGR.out; rintro e w' ⟨rfl, hb'⟩))
  have HY := Hd.mk (FSx.high ((HX.out.drew.call (by assumption)).call hb') (IntKind.i64.wrap (1 + if l.high < r.high then (r.high : Int) else (l.high : Int))))
  have hmx : IntKind.i64.wrap (1 + if l.high < r.high then (r.high : Int) else (l.high : Int)) = ((1 + max l.high r.high : Nat) : Int) := by
    rw [IntKind.wrap_i64] <;> split <;> omega
  generalize (w'.setCell ⟨g, 11, none⟩ (.int .i64 (IntKind.i64.wrap (1 + if l.high < r.high then (r.high : Int) else (l.high : Int))))) = wq at HY ⊢
  clear s1 s2 s3 s4 s9 s10 slt s5 s6 s7 s8 s11 sf hb'
  have HMX := Hd.mk hmx
  clear hmx
  generalize (if l.high < r.high then (r.high : Int) else (l.high : Int)) = mx at *
  go_wp2_with fail
  go_ret
  obtain ⟨⟨⟨ho, -⟩, -⟩, c', rfl, hk⟩ := HY.out
  rw [HMX.out] at hk
  exact ⟨rfl, ⟨hk, HL.out.only ho (fun b hb e => HGL.out (e ▸ hb)), HR.out.only ho (fun b hb e => HGR.out (e ▸ hb))⟩, ho⟩
end Go.Proofs.YtgokmldngnmmhaaDoor
