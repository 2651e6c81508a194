/- Several texts of the proof, one behind the other: RopeD, RopeQ, RopeH, RopeE, RopeR. -/
import Derived.Test.YtgokmldngnmmhaaDoorMRopePlays3
import Derived.Deep.LoopGhost
import Derived.BigRegion
import Derived.Laws.EntriesVeiled
/- take. -/
namespace Go.Proofs.YtgokmldngnmmhaaDoor
open Go.RowKit
set_option maxRecDepth 100000
theorem Ap.less {t u : RT} (h : Ap t) (hs : u.blocks.Sublist t.blocks) (hr : u.runes.length ≤ t.runes.length) : Ap u :=
  ⟨h.nodup.sublist hs, h.sm.le hr (by have := hs.length_le; rwa [RT.len_blocks, RT.len_blocks] at this)⟩
theorem runes_len (t : RT) : t.runes.length = t.chunks.flatten.length := by rw [RT.runes_chunks]
theorem take_len {t : RT} {k : Nat} (hne : Ne t.chunks) (hk : ∃ a c b, t.chunks = a ++ c :: b ∧ cb a = k) : (t.takeT k).runes.length ≤ t.runes.length := by
  obtain ⟨a, c, b, h, hk⟩ := hk
  rw [runes_len, RT.takeT_chunks hne h hk, runes_len, h]
  simp
theorem take_first_len {t : RT} (hne : Ne t.chunks) (h : t ≠ .nil) : (t.first ++ (t.takeT 0).runes).length = t.runes.length := by
  obtain ⟨b, e⟩ := RT.first_chunks h
  have := RT.takeT_chunks (a := []) (k := 0) hne e rfl
  rw [List.length_append, runes_len, this, runes_len, e]
  simp
/-- Which part the chunk lies in. -/
theorem take_split {l r : List (List Int)} {rs : List Int} {k : Nat} (hne : Ne (l ++ rs :: r)) (hk : ∃ a c b, l ++ rs :: r = a ++ c :: b ∧ cb a = k) :
    (k < cb l ∧ ∃ a c b, l = a ++ c :: b ∧ cb a = k) ∨ k = cb l ∨ (cb l + bl rs ≤ k ∧ ∃ a c b, r = a ++ c :: b ∧ cb a = k - cb l - bl rs) := by
  obtain ⟨a, c, b, h, hk⟩ := hk
  rcases split3 h with ⟨d, h1, h2⟩ | ⟨d, rfl, h2⟩
  · cases d with
    | nil => right; left; simp at h1; rw [h1, hk]
    | cons y d =>
      left
      simp only [List.cons_append, List.cons.injEq] at h2
      obtain ⟨rfl, -⟩ := h2
      have : 0 < bl c := bl_pos (hne c (by rw [h1]; simp))
      exact ⟨by rw [h1, cb_append, cb_cons]; omega, a, c, d, h1, hk⟩
  · right; right
    rw [cb_append, cb_cons] at hk
    exact ⟨by omega, d, c, b, h2, by omega⟩
def spine : RT → Nat
  | .nil => 0
  | .node _ _ l _ => 1 + spine l
theorem first_node {g : Nat} {rs : List Int} {l r : RT} (h : l ≠ .nil) : (RT.node g rs l r).first = l.first := by
  show (if l.isNil = true then rs else l.first) = _
  rw [if_neg (fun e => h (RT.isNil_iff.1 e))]
theorem node_fst {w : World} {g : Nat} {rs rs' : List Int} {all : Cn} {l r : Value} {h : Int} (hb : Blk w g 177 (nodeV rs all l r h)) :
    Blk (((((w.setCell ⟨g, 0, none⟩ (.string ⟨(U.encs rs').toArray⟩)).setCell ⟨g, 1, none⟩ (.int .i64 (cnt rs').b)).setCell ⟨g, 2, none⟩ (.int .i64 (cnt rs').h)).setCell ⟨g, 3, none⟩ (.int .i64 (cnt rs').r)).setCell ⟨g, 4, none⟩ (.int .i64 (cnt rs').l)) g 177 (nodeV rs' all l r h) :=
  ((((hb.set_ 0 _).set_ 1 _).set_ 2 _).set_ 3 _).set_ 4 _
attribute [local go_sem] Cn.v_eq field_cn
set_option maxHeartbeats 2000000 in
theorem take_calls {t : RT} {k : Nat} {w : World} (ht : AtT w t) (hne : Ne t.chunks) (hd : Ap t) (hk : ∃ a c b, t.chunks = a ++ c :: b ∧ cb a = k) :
    Calls Tryd.prog 102 #[t.ptr, .int .i64 k] w fun e w' => e = .returned (RT.takeT t k).ptr ∧ AtT w' (RT.takeT t k) ∧ Only (fun b => b ∈ t.blocks) w w' := by
  induction t generalizing k w with
  | nil => obtain ⟨a, c, b, h, -⟩ := hk; simp at h
  | node g rs l r ihl ihr =>
    obtain ⟨-, c1, -, -, -, -, -, -, -, c9, c10, -⟩ := nodeV_cell ht.1
    have lt := ht.1.lt
    have fr := ht.1.frozen
    have HT := Hd.mk ht
    have HD := Hd.mk hd
    simp only [RT.chunks_node] at hne hk
    have hsm := bl_pos hne.r.hd
    have hlen := hd.sm.len
    have hb1 : bl l.runes ≤ 4398046511104 := by have := cnt_b l.runes; obtain ⟨⟨b0, b1, -⟩, -, -⟩ := cnt_in l.runes; simp only [RT.runes_node, List.length_append] at hlen; omega
    have hb2 : bl rs ≤ 4398046511104 := by have := cnt_b rs; obtain ⟨⟨b0, b1, -⟩, -, -⟩ := cnt_in rs; simp only [RT.runes_node, List.length_append] at hlen; omega
    have hb3 : bl r.runes ≤ 4398046511104 := by have := cnt_b r.runes; obtain ⟨⟨b0, b1, -⟩, -, -⟩ := cnt_in r.runes; simp only [RT.runes_node, List.length_append] at hlen; omega
    rw [RT.ptr_node]
    rw [cnt_b] at c1
    have hcase := take_split hne hk
    rw [cb_runes] at hcase
    rcases hcase with ⟨h, hkl⟩ | h | ⟨h, hkr⟩
    · have hi : (k : Int) < (bl l.runes : Int) := by omega
      have HE : Hd (RT.takeT (.node g rs l r) k = RT.lvl g rs (RT.takeT l k) r) := ⟨by show (if _ then _ else _) = _; rw [if_pos h]⟩
      have HA : Hd (Ap (.node g rs (RT.takeT l k) r)) := ⟨hd.less (by rw [RT.blocks_node, RT.blocks_node]; exact (RT.takeT_sub l k).append_right _) (by have := take_len hne.l hkl; simp only [RT.runes_node, List.length_append]; omega)⟩
      have HI := fun w1 (hb : Below w.heap.size w w1) => Hd.mk (ihl (k := k) (w := w1) (ht.2.1.below hb) hne.l hd.onL hkl)
      have HN : Hd ((∀ b ∈ r.blocks, ¬ b ∈ l.blocks) ∧ ¬ g ∈ l.blocks) := ⟨⟨fun b hb e => hd.lr b e hb, hd.nl⟩⟩
      clear h hk hkl hd hne ihl ihr ht hlen hsm
      simp only [RT.ptr] at c9 c10 ⊢
      go_enter Tryd.func102, Tryd.ntmps102
      go_wp2_with (first
        | (go_at_call 111; refine (all_calls (t := l) HT.out.2.1).mono ?_; rintro e w1 ⟨rfl, hb⟩; simp only [cnt_b, Cn.v_eq]; have hg1 := HT.out.1.below hb HT.out.1.lt; obtain ⟨-, c1, -, -, -, -, -, -, -, c9, c10, -⟩ := nodeV_cell hg1; rw [cnt_b] at c1; have lt := hg1.lt; have fr := hg1.frozen; simp only [RT.ptr] at c9 c10; have HB := Hd.mk hb; clear hb hg1)
        | (go_at_call 102; refine (HI _ (HB.out)).out.mono ?_; rintro e w2 ⟨he, ht2, ho2⟩; simp only [RT.ptr] at he; obtain rfl := he; have hg2 := (HT.out.1.below (HB.out) HT.out.1.lt).only ho2 HN.out.2; obtain ⟨-, c1, -, -, -, -, -, -, -, c9, c10, -⟩ := nodeV_cell hg2; have lt := hg2.lt; have fr := hg2.frozen; simp only [RT.ptr] at c9 c10; have HG2 := Hd.mk hg2; have HT2 := Hd.mk ht2; have HO2 := Hd.mk ho2; clear hg2 ht2 ho2)
        | (go_at_call 132; refine (level_calls (g := g) (rs := rs) (l := RT.takeT l k) (r := r) (raw_left HG2.out HT2.out ((HT.out.2.2.below HB.out).only HO2.out HN.out.1) HA.out.nl HA.out.nr) HA.out).mono ?_; rintro e w3 ⟨he, ht3, ho3⟩; simp only [RT.ptr] at he; obtain rfl := he; have HT3 := Hd.mk ht3; have HO3 := Hd.mk ho3; clear ht3 ho3))
      go_ret
      rw [HE.out]
      refine ⟨rfl, HT3.out, ((only_set (((Only.of_below HB.out).trans (HO2.out.mono ?_))) ?_).trans (HO3.out.mono ?_))⟩
      · rintro k - h; simp [h]
      · simp
      · rintro k - h
        simp only [RT.blocks_node, List.mem_append, List.mem_cons] at h ⊢
        rcases h with h | h | h
        · exact .inl ((RT.takeT_sub _ _).subset h)
        · exact .inr (.inl h)
        · exact .inr (.inr h)
    · have hi : ¬ ((k : Int) < (bl l.runes : Int)) := by omega
      have hi2 : ¬ ((bl l.runes : Int) < (k : Int)) := by omega
      have hE0 : RT.takeT (.node g rs l r) k = if l.isNil then r else if r.isNil then l else RT.lvl g r.first l (RT.takeT r 0) := by show (if _ then _ else _) = _; rw [if_neg (by omega), if_neg (by omega)]
      by_cases hl : l = .nil
      · subst hl
        have HE : Hd (RT.takeT (.node g rs .nil r) k = r) := ⟨by rw [hE0]; rfl⟩
        obtain rfl : k = 0 := h
        obtain ⟨pr, hpr⟩ : ∃ p, r.pa = p := ⟨_, rfl⟩
        have HPR := Hd.mk hpr
        clear hk hd hne ihl ihr ht hlen hsm hE0 hi hi2 hb1 hpr
        rw [RT.ptr_nil] at c9
        simp only [RT.ptr] at c10 ⊢
        rw [HPR.out] at c10
        go_enter Tryd.func102, Tryd.ntmps102
        go_wp2_with (go_at_call 111;  refine (all_calls (t := .nil) HT.out.2.1).mono ?_; rintro e w1 ⟨rfl, hb⟩; simp only [cnt_b, Cn.v_eq, RT.runes_nil, bl_nil]; have hg1 := HT.out.1.below hb HT.out.1.lt; obtain ⟨-, c1, -, -, -, -, -, -, -, c9, c10, -⟩ := nodeV_cell hg1; rw [cnt_b] at c1; have lt := hg1.lt; have fr := hg1.frozen; rw [RT.ptr_nil] at c9; simp only [RT.ptr] at c10; rw [HPR.out] at c10; have HB := Hd.mk hb; clear hb hg1)
        go_ret
        rw [HE.out]
        exact ⟨by rw [HPR.out]; rfl, HT.out.2.2.below HB.out, Only.of_below HB.out⟩
      · by_cases hr : r = .nil
        · subst hr
          have HE : Hd (RT.takeT (.node g rs l .nil) k = l) := ⟨by rw [hE0, if_neg (fun e => hl (RT.isNil_iff.1 e))]; rfl⟩
          cases l with
          | nil => exact absurd rfl hl
          | node gl rl ll lr =>
            have HB0 : Hd (bl (RT.node gl rl ll lr).runes = k) := ⟨h.symm⟩
            rw [HB0.out] at hi hi2 hb1
            clear h hk hd hne ihl ihr ht hlen hsm hE0 hl
            rw [RT.ptr_nil] at c10
            rw [RT.ptr_node] at c9
            simp only [RT.ptr] at ⊢
            go_enter Tryd.func102, Tryd.ntmps102
            go_wp2_with (go_at_call 111;  refine (all_calls (t := .node gl rl ll lr) HT.out.2.1).mono ?_; rintro e w1 ⟨rfl, hb⟩; simp only [cnt_b, Cn.v_eq]; have hg1 := HT.out.1.below hb HT.out.1.lt; obtain ⟨-, c1, -, -, -, -, -, -, -, c9, c10, -⟩ := nodeV_cell hg1; rw [cnt_b] at c1; have lt := hg1.lt; have fr := hg1.frozen; rw [RT.ptr_node] at c9; rw [RT.ptr_nil] at c10; rw [HB0.out]; have HB := Hd.mk hb; clear hb hg1)
            go_ret
            rw [HE.out]
            exact ⟨rfl, HT.out.2.1.below HB.out, Only.of_below HB.out⟩
        · have HE : Hd (RT.takeT (.node g rs l r) k = RT.lvl g r.first l (RT.takeT r 0)) := ⟨by rw [hE0, if_neg (fun e => hl (RT.isNil_iff.1 e)), if_neg (fun e => hr (RT.isNil_iff.1 e))]⟩
          obtain ⟨b, hfc⟩ := RT.first_chunks hr
          have HA : Hd (Ap (.node g r.first l (RT.takeT r 0))) := ⟨hd.less (by rw [RT.blocks_node, RT.blocks_node]; exact ((RT.takeT_sub r 0).cons_cons _).append_left _) (by have := take_first_len hne.r.tl hr; simp only [RT.runes_node, List.length_append] at this ⊢; omega)⟩
          have HI := fun w1 (hr : AtT w1 r) => Hd.mk (ihr (k := 0) (w := w1) hr hne.r.tl hd.onR ⟨[], _, _, hfc, rfl⟩)
          have HN : Hd ((∀ b ∈ l.blocks, ¬ b ∈ r.blocks) ∧ ¬ g ∈ r.blocks ∧ ¬ g ∈ l.blocks) := ⟨⟨fun b hb e => hd.lr b hb e, hd.nr, hd.nl⟩⟩
          have HR : Hd (r ≠ .nil) := ⟨hr⟩
          obtain ⟨al, hpl⟩ : ∃ al, l.pa = some al := by cases l with
            | nil => exact absurd rfl hl
            | node => exact ⟨_, rfl⟩
          obtain ⟨ar, hpr⟩ : ∃ al, r.pa = some al := by cases r with
            | nil => exact absurd rfl hr
            | node => exact ⟨_, rfl⟩
          have HPL := Hd.mk hpl
          have HPR := Hd.mk hpr
          clear h hk hd hne ihl ihr ht hlen hsm hE0 hl hr hfc b hpl hpr
          simp only [RT.ptr] at c9 c10 ⊢
          rw [HPL.out] at c9
          rw [HPR.out] at c10
          go_enter Tryd.func102, Tryd.ntmps102
          go_wp2_with (go_at_call 111; rw [← HPL.out]; refine (all_calls (t := l) HT.out.2.1).mono ?_; rintro e w1 ⟨rfl, hb⟩; simp only [cnt_b, Cn.v_eq]; have hg1 := HT.out.1.below hb HT.out.1.lt; obtain ⟨c0, c1, c2, c3, c4, -, -, -, -, c9, c10, -⟩ := nodeV_cell hg1; rw [cnt_b] at c1; have lt := hg1.lt; have fr := hg1.frozen; simp only [RT.ptr] at c9 c10; rw [HPL.out] at c9; rw [HPR.out] at c10; have HB := Hd.mk hb; clear hb hg1)
          go_loopg [6] (spine r) (fun gk f wr => wr = w1 ∧ ∃ t : RT, f = t.ptr ∧ t ≠ .nil ∧ AtT w1 t ∧ t.first = r.first ∧ spine t = gk)
          case atStart => exact ⟨rfl, r, by rw [RT.ptr, HPR.out], HR.out, HT.out.2.2.below HB.out, rfl, rfl⟩
          case round =>
            obtain ⟨hw, t, rfl, hn, hat, hf, hg⟩ := hrel
            rw [hw]
            have HTT := Hd.mk hat
            have HFF := Hd.mk hf
            have HGG := Hd.mk hg
            cases t with
            | nil => exact absurd rfl hn
            | node g2 rs2 l2 r2 =>
              obtain ⟨d0, d1, d2, d3, d4, -, -, -, -, d9, -, -⟩ := nodeV_cell HTT.out.1
              have lt2 := HTT.out.1.lt
              clear hw hn hat hf hg
              rw [RT.ptr_node]
              cases l2 with
              | nil =>
                rw [RT.ptr_nil] at d9
                go_wp2_with fail
                go_region
                obtain rfl : rs2 = r.first := HFF.out
                have hss := node_fst (rs' := r.first) (HT.out.1.below HB.out HT.out.1.lt)
                have hoo : Only (fun b => b = g) w1 (((((w1.setCell ⟨g, 0, none⟩ (.string ⟨(U.encs r.first).toArray⟩)).setCell ⟨g, 1, none⟩ (.int .i64 (cnt r.first).b)).setCell ⟨g, 2, none⟩ (.int .i64 (cnt r.first).h)).setCell ⟨g, 3, none⟩ (.int .i64 (cnt r.first).r)).setCell ⟨g, 4, none⟩ (.int .i64 (cnt r.first).l)).drew :=
                  (only_set (only_set (only_set (only_set (only_set (Only.refl (fun b => b = g) w1) rfl) rfl) rfl) rfl) rfl).drew
                generalize (((((w1.setCell ⟨g, 0, none⟩ (.string ⟨(U.encs r.first).toArray⟩)).setCell ⟨g, 1, none⟩ (.int .i64 (cnt r.first).b)).setCell ⟨g, 2, none⟩ (.int .i64 (cnt r.first).h)).setCell ⟨g, 3, none⟩ (.int .i64 (cnt r.first).r)).setCell ⟨g, 4, none⟩ (.int .i64 (cnt r.first).l)) = wf at hss hoo ⊢
                replace hss : Blk wf.drew g _ _ := hss
                generalize wf.drew = wg at hss hoo ⊢
                clear wf
                have HRR := Hd.mk ((HT.out.2.2.below HB.out).only hoo (fun b hb e => HN.out.2.1 (e ▸ hb)))
                have HLL := Hd.mk ((HT.out.2.1.below HB.out).only hoo (fun b hb e => HN.out.2.2 (e ▸ hb)))
                clear c0 c1 c2 c3 c4 c9 c10 lt fr d0 d1 d2 d3 d4 d9 lt2
                obtain ⟨-, -, -, -, -, -, -, -, -, c9, c10, -⟩ := nodeV_cell hss
                have lt := hss.lt
                have fr := hss.frozen
                simp only [RT.ptr] at c9 c10
                rw [HPR.out] at c10
                have HSS := Hd.mk hss
                have HOO := Hd.mk hoo
                clear hss hoo
                go_wp2_with (first
                  | (go_at_call 102; rw [← HPR.out]; refine (HI _ HRR.out).out.mono ?_; rintro e w2 ⟨he, ht2, ho2⟩; simp only [RT.ptr] at he; obtain rfl := he; have hg2 := HSS.out.only ho2 HN.out.2.1; obtain ⟨-, c1, -, -, -, -, -, -, -, c9, c10, -⟩ := nodeV_cell hg2; have lt := hg2.lt; have fr := hg2.frozen; simp only [RT.ptr] at c9 c10; have HG2 := Hd.mk hg2; have HT2 := Hd.mk ht2; have HO2 := Hd.mk ho2; clear hg2 ht2 ho2)
                  | (go_at_call 132; refine (level_calls (g := g) (rs := r.first) (l := l) (r := RT.takeT r 0) (raw_right HG2.out (HLL.out.only HO2.out HN.out.1) HT2.out HA.out.nl HA.out.nr) HA.out).mono ?_; rintro e w3 ⟨he, ht3, ho3⟩; simp only [RT.ptr] at he; obtain rfl := he; have HT3 := Hd.mk ht3; have HO3 := Hd.mk ho3; clear ht3 ho3))
                go_ret
                rw [HE.out]
                refine ⟨rfl, HT3.out, ((only_set ((((Only.of_below HB.out).trans (HOO.out.mono ?_))).trans (HO2.out.mono ?_)) ?_).trans (HO3.out.mono ?_))⟩
                · rintro k - rfl; simp
                · rintro k - h; simp [h]
                · simp
                · rintro k - h
                  simp only [RT.blocks_node, List.mem_append, List.mem_cons] at h ⊢
                  rcases h with h | h | h
                  · exact .inl h
                  · exact .inr (.inl h)
                  · exact .inr (.inr ((RT.takeT_sub _ _).subset h))
              | node g3 rs3 l3 r3 =>
                rw [RT.ptr_node] at d9
                go_wp2_with fail
                go_roundg (spine (.node g3 rs3 l3 r3))
                case rel => exact ⟨rfl, .node g3 rs3 l3 r3, rfl, (by intro e; cases e), HTT.out.2.1, (first_node (g := g2) (rs := rs2) (r := r2) (by intro e; cases e)).symm.trans HFF.out, rfl⟩
                case measure => rw [← HGG.out]; simp only [spine]; omega
    · have hi : ¬ ((k : Int) < (bl l.runes : Int)) := by omega
      have hi2 : (bl l.runes : Int) < (k : Int) := by omega
      obtain ⟨k2, hk2⟩ : ∃ k2, k2 = k - bl l.runes - bl rs := ⟨_, rfl⟩
      have HE : Hd (RT.takeT (.node g rs l r) k = RT.lvl g rs l (RT.takeT r k2)) := ⟨by show (if _ then _ else _) = _; rw [if_neg (by omega), if_pos (by omega), hk2]⟩
      have hkr2 : ∃ a c b, r.chunks = a ++ c :: b ∧ cb a = k2 := by rw [hk2]; exact hkr
      have hkb : k2 ≤ bl r.runes := by obtain ⟨a, c, b, e, e2⟩ := hkr2; rw [← cb_runes, e, cb_append]; omega
      have HA : Hd (Ap (.node g rs l (RT.takeT r k2))) := ⟨hd.less (by rw [RT.blocks_node, RT.blocks_node]; exact ((RT.takeT_sub r k2).cons_cons _).append_left _) (by have := take_len hne.r.tl hkr2; simp only [RT.runes_node, List.length_append]; omega)⟩
      have HI := fun w1 (hb : Below w.heap.size w w1) => Hd.mk (ihr (k := k2) (w := w1) (ht.2.2.below hb) hne.r.tl hd.onR hkr2)
      have HN : Hd ((∀ b ∈ l.blocks, ¬ b ∈ r.blocks) ∧ ¬ g ∈ r.blocks) := ⟨⟨fun b hb e => hd.lr b hb e, hd.nr⟩⟩
      have HW : Hd (IntKind.i64.wrap (IntKind.i64.wrap ((k : Int) - (bl l.runes : Int)) - (bl rs : Int)) = (k2 : Int)) := ⟨by rw [IntKind.wrap_i64 (n := (k : Int) - (bl l.runes : Int)), IntKind.wrap_i64] <;> omega⟩
      clear h hk hkr hkr2 hk2 hkb hd hne ihl ihr ht hlen hsm hb3
      simp only [RT.ptr] at c9 c10 ⊢
      go_enter Tryd.func102, Tryd.ntmps102
      go_wp2_with (go_at_call 111; refine (all_calls (t := l) HT.out.2.1).mono ?_; rintro e w1 ⟨rfl, hb⟩; simp only [cnt_b, Cn.v_eq]; have hg1 := HT.out.1.below hb HT.out.1.lt; obtain ⟨-, c1, -, -, -, -, -, -, -, c9, c10, -⟩ := nodeV_cell hg1; rw [cnt_b] at c1; have lt := hg1.lt; have fr := hg1.frozen; simp only [RT.ptr] at c9 c10; have HB := Hd.mk hb; clear hb hg1)
      go_region_with (go_at_call 102; rw [HW.out]; refine (HI _ (ex_drew HB.out)).out.mono ?_; rintro e w2 ⟨he, ht2, ho2⟩; simp only [RT.ptr] at he; obtain rfl := he; have hg2 := (HT.out.1.below (ex_drew HB.out) HT.out.1.lt).only ho2 HN.out.2; obtain ⟨-, c1, -, -, -, -, -, -, -, c9, c10, -⟩ := nodeV_cell hg2; have lt := hg2.lt; have fr := hg2.frozen; simp only [RT.ptr] at c9 c10; have HG2 := Hd.mk hg2; have HT2 := Hd.mk ht2; have HO2 := Hd.mk ho2; clear hg2 ht2 ho2)
      all_goals go_wp2_with (go_at_call 132; refine (level_calls (g := g) (rs := rs) (l := l) (r := RT.takeT r k2) (raw_right HG2.out ((HT.out.2.1.below (ex_drew HB.out)).only HO2.out HN.out.1) HT2.out HA.out.nl HA.out.nr) HA.out).mono ?_; rintro e w3 ⟨he, ht3, ho3⟩; simp only [RT.ptr] at he; obtain rfl := he; have HT3 := Hd.mk ht3; have HO3 := Hd.mk ho3; clear ht3 ho3)
      all_goals go_ret
      all_goals rw [HE.out]
      all_goals refine ⟨rfl, HT3.out, ((only_set (((Only.of_below (ex_drew HB.out)).trans (HO2.out.mono ?_))) ?_).trans (HO3.out.mono ?_))⟩
      all_goals first
        | (simp; done)
        | (rintro k - h; simp [h]; done)
        | (rintro k - h
           simp only [RT.blocks_node, List.mem_append, List.mem_cons] at h ⊢
           rcases h with h | h | h
           · exact .inl h
           · exact .inr (.inl h)
           · exact .inr (.inr ((RT.takeT_sub _ _).subset h)))
end Go.Proofs.YtgokmldngnmmhaaDoor
/- Where runes begin in their bytes; how a text is cut into chunks. Plain. -/
namespace Go.Proofs.YtgokmldngnmmhaaDoor
/-- The byte there is none within a rune, or it is the end. -/
def redg (s : U.Bs) (a : Nat) : Bool := decide (a = s.length) || !(U.cont (s.getD a 0))
theorem by8_cont {n : Int} (h : 0 ≤ n) (h2 : n < 256) : U.cont (U.by8 n) = decide (128 ≤ n ∧ n < 192) := by
  have := U.by8_toNat h h2
  unfold U.cont
  congr 1
  apply propext
  omega
theorem enc_cont {r : Int} (h : U.right r = true) {i : Nat} (hi : i < U.wid r) (t : U.Bs) : U.cont ((U.enc r ++ t).getD i 0) = decide (0 < i) := by
  have hr := U.right_iff.1 h
  unfold U.wid at hi
  unfold U.enc
  split
  · rename_i h1
    rw [if_pos h1] at hi
    obtain rfl : i = 0 := by omega
    show U.cont (U.by8 r) = _
    rw [by8_cont (by omega) (by omega), decide_eq_false (by omega)]; rfl
  · rename_i h1
    rw [if_neg h1] at hi
    split
    · rename_i h2
      rw [if_pos h2] at hi
      obtain rfl | rfl : i = 0 ∨ i = 1 := by omega
      · show U.cont (U.by8 _) = _
        rw [by8_cont (by omega) (by omega), decide_eq_false (by omega)]; rfl
      · show U.cont (U.by8 _) = _
        rw [by8_cont (by omega) (by omega), decide_eq_true (by omega)]; rfl
    · rename_i h2
      rw [if_neg h2] at hi
      split
      · rename_i h3
        rw [if_pos h3] at hi
        obtain rfl | rfl | rfl : i = 0 ∨ i = 1 ∨ i = 2 := by omega
        · show U.cont (U.by8 _) = _
          rw [by8_cont (by omega) (by omega), decide_eq_false (by omega)]; rfl
        · show U.cont (U.by8 _) = _
          rw [by8_cont (by omega) (by omega), decide_eq_true (by omega)]; rfl
        · show U.cont (U.by8 _) = _
          rw [by8_cont (by omega) (by omega), decide_eq_true (by omega)]; rfl
      · rename_i h3
        rw [if_neg h3] at hi
        obtain rfl | rfl | rfl | rfl : i = 0 ∨ i = 1 ∨ i = 2 ∨ i = 3 := by omega
        · show U.cont (U.by8 _) = _
          rw [by8_cont (by omega) (by omega), decide_eq_false (by omega)]; rfl
        · show U.cont (U.by8 _) = _
          rw [by8_cont (by omega) (by omega), decide_eq_true (by omega)]; rfl
        · show U.cont (U.by8 _) = _
          rw [by8_cont (by omega) (by omega), decide_eq_true (by omega)]; rfl
        · show U.cont (U.by8 _) = _
          rw [by8_cont (by omega) (by omega), decide_eq_true (by omega)]; rfl
theorem bl_cons (r : Int) (rs : List Int) : bl (r :: rs) = U.wid r + bl rs := by unfold bl; rw [U.encs_cons, List.length_append, U.enc_length]
/-- A place is none within a rune where runes are cut. -/
theorem redg_iff {rs : List Int} (h : U.AllR rs) {a : Nat} (ha : a ≤ bl rs) : redg (U.encs rs) a = true ↔ ∃ p q, rs = p ++ q ∧ bl p = a := by
  induction rs generalizing a with
  | nil =>
    simp at ha
    subst ha
    exact ⟨fun _ => ⟨[], [], rfl, rfl⟩, fun _ => rfl⟩
  | cons r rs ih =>
    have hr := h r (by simp)
    have hw := U.wid_pos r
    have hrs : U.AllR rs := fun x hx => h x (by simp [hx])
    rw [bl_cons] at ha
    by_cases h0 : a < U.wid r
    · have e : redg (U.encs (r :: rs)) a = !decide (0 < a) := by
        unfold redg
        have hl : a ≠ (U.encs (r :: rs)).length := by have := bl_cons r rs; unfold bl at this; omega
        rw [decide_eq_false hl, U.encs_cons, enc_cont hr h0]; simp
      rw [e]
      constructor
      · intro hh
        have : a = 0 := by simpa using hh
        exact ⟨[], r :: rs, rfl, this.symm⟩
      · rintro ⟨p, q, hp, hb⟩
        cases p with
        | nil => simp at hb; simp [← hb]
        | cons y p =>
          simp only [List.cons_append, List.cons.injEq] at hp
          rw [bl_cons, ← hp.1] at hb
          omega
    · have e : redg (U.encs (r :: rs)) a = redg (U.encs rs) (a - U.wid r) := by
        unfold redg
        rw [U.encs_cons, List.length_append, U.enc_length]
        have e1 : (U.enc r ++ U.encs rs).getD a 0 = (U.encs rs).getD (a - U.wid r) 0 := by
          rw [List.getD_eq_getElem?_getD, List.getD_eq_getElem?_getD, List.getElem?_append_right (by rw [U.enc_length]; omega), U.enc_length]
        rw [e1]
        congr 1
        rw [decide_eq_decide]
        omega
      rw [e, ih hrs (by omega)]
      constructor
      · rintro ⟨p, q, rfl, hb⟩
        exact ⟨r :: p, q, rfl, by rw [bl_cons]; omega⟩
      · rintro ⟨p, q, hp, hb⟩
        cases p with
        | nil => simp at hb; omega
        | cons y p =>
          simp only [List.cons_append, List.cons.injEq] at hp
          obtain ⟨rfl, rfl⟩ := hp
          rw [bl_cons] at hb
          exact ⟨p, q, rfl, by omega⟩
/-- As much of runes as so many bytes hold. -/
def fill : List Int → Nat → List Int
  | [], _ => []
  | r :: rs, k => if U.wid r ≤ k then r :: fill rs (k - U.wid r) else []
theorem fill_pre (rs : List Int) (k : Nat) : ∃ q, rs = fill rs k ++ q := by
  induction rs generalizing k with
  | nil => exact ⟨[], rfl⟩
  | cons r rs ih =>
    unfold fill
    split
    · obtain ⟨q, e⟩ := ih (k - U.wid r)
      exact ⟨q, by rw [List.cons_append, ← e]⟩
    · exact ⟨r :: rs, rfl⟩
theorem fill_le (rs : List Int) (k : Nat) : bl (fill rs k) ≤ k := by
  induction rs generalizing k with
  | nil => simp [fill]
  | cons r rs ih =>
    unfold fill
    split
    · rw [bl_cons]; have := ih (k - U.wid r); omega
    · simp
/-- .. and no more of it. -/
theorem fill_max {rs p q : List Int} {k : Nat} (h : rs = p ++ q) (hk : bl p ≤ k) : bl p ≤ bl (fill rs k) := by
  induction rs generalizing p k with
  | nil =>
    obtain ⟨rfl, rfl⟩ := List.append_eq_nil_iff.1 h.symm
    simp
  | cons r rs ih =>
    cases p with
    | nil => simp
    | cons y p =>
      simp only [List.cons_append, List.cons.injEq] at h
      obtain ⟨rfl, h2⟩ := h
      rw [bl_cons] at hk
      unfold fill
      rw [if_pos (by omega), bl_cons, bl_cons]
      have := ih h2 (k := k - U.wid r) (by omega)
      omega
theorem fill_ne {rs : List Int} {k : Nat} (h : rs ≠ []) (hk : 4 ≤ k) : fill rs k ≠ [] := by
  cases rs with
  | nil => exact absurd rfl h
  | cons r rs =>
    unfold fill
    rw [if_pos (by have := U.wid_le r; omega)]
    simp
theorem fill_drop (rs : List Int) (k : Nat) : rs = fill rs k ++ rs.drop (fill rs k).length := by
  obtain ⟨q, e⟩ := fill_pre rs k
  have : rs.drop (fill rs k).length = q := by
    conv => lhs; rw [e]
    have : fill (fill rs k ++ q) k = fill rs k := by rw [← e]
    rw [this, List.drop_left]
  rw [this]; exact e
/-- The chunks of a text. -/
def cutR (rs : List Int) : List (List Int) :=
  if _h : 32 < bl rs then fill rs 32 :: cutR (rs.drop (fill rs 32).length) else if rs = [] then [] else [rs]
termination_by rs.length
decreasing_by
  have hne : rs ≠ [] := by rintro rfl; simp at _h
  have := List.length_pos_iff.2 (fill_ne hne (k := 32) (by omega))
  have := List.length_pos_iff.2 hne
  rw [List.length_drop]; omega
theorem cutR_flatten (rs : List Int) : (cutR rs).flatten = rs := by
  generalize hn : rs.length = n
  induction n using Nat.strongRecOn generalizing rs with
  | _ n ih =>
    unfold cutR
    split
    · rename_i h
      have hne : rs ≠ [] := by rintro rfl; simp at h
      have := List.length_pos_iff.2 (fill_ne hne (k := 32) (by omega))
      have := List.length_pos_iff.2 hne
      rw [List.flatten_cons, ih (rs.drop (fill rs 32).length).length (by rw [List.length_drop]; omega) _ rfl, ← fill_drop]
    · split
      · rename_i h; rw [h]; rfl
      · simp
theorem cutR_mem {rs c : List Int} (h : c ∈ cutR rs) : c ≠ [] ∧ bl c ≤ 32 := by
  generalize hn : rs.length = n
  induction n using Nat.strongRecOn generalizing rs with
  | _ n ih =>
    unfold cutR at h
    split at h
    · rename_i h1
      have hne : rs ≠ [] := by rintro rfl; simp at h1
      have hf := fill_ne hne (k := 32) (by omega)
      have := List.length_pos_iff.2 hf
      have := List.length_pos_iff.2 hne
      rcases List.mem_cons.1 h with rfl | h
      · exact ⟨hf, fill_le _ _⟩
      · exact ih (rs.drop (fill rs 32).length).length (by rw [List.length_drop]; omega) h rfl
    · split at h
      · simp at h
      · rename_i h1 h2
        obtain rfl := List.mem_singleton.1 h
        exact ⟨h2, by omega⟩
theorem cutR_ne (rs : List Int) : Ne (cutR rs) := fun _ h => (cutR_mem h).1
end Go.Proofs.YtgokmldngnmmhaaDoor
/- A rope's tree is as low as it must be. Plain. -/
namespace Go.Proofs.YtgokmldngnmmhaaDoor
namespace RT
def Bal : RT → Prop
  | nil => True
  | node _ _ l r => l.high ≤ r.high + 1 ∧ r.high ≤ l.high + 1 ∧ Bal l ∧ Bal r
theorem lvl_bal {g : Nat} {rs : List Int} {l r : RT} (hl : Bal l) (hr : Bal r) (h1 : l.high ≤ r.high + 2) (h2 : r.high ≤ l.high + 2) :
    Bal (lvl g rs l r) ∧ max l.high r.high ≤ (lvl g rs l r).high ∧ (lvl g rs l r).high ≤ 1 + max l.high r.high ∧ (l.high ≤ r.high + 1 → r.high ≤ l.high + 1 → (lvl g rs l r).high = 1 + max l.high r.high) := by
  unfold lvl
  split
  · rename_i h
    cases l with
    | nil => simp at h
    | node gl rl a b =>
      obtain ⟨k1, k2, ka, kb⟩ := hl
      simp only [high_node] at h h1 h2 ⊢
      show _ ∧ _
      have e : (node gl rl a b).fixL = if a.high < b.high then rotL gl rl a b else node gl rl a b := rfl
      rw [e]
      split
      · cases b with
        | nil => rename_i h3; simp at h3
        | node gb rb c d =>
          obtain ⟨m1, m2, kc, kd⟩ := kb
          simp only [high_node] at *
          simp only [rotL, rotR, Bal, high_node]
          refine ⟨⟨?_, ?_, ⟨?_, ?_, ka, kc⟩, ⟨?_, ?_, kd, hr⟩⟩, ?_, ?_, ?_⟩ <;> omega
      · simp only [rotR, Bal, high_node]
        refine ⟨⟨?_, ?_, ka, ⟨?_, ?_, kb, hr⟩⟩, ?_, ?_, ?_⟩ <;> omega
  · split
    · rename_i h0 h
      cases r with
      | nil => simp at h
      | node gr rr a b =>
        obtain ⟨k1, k2, ka, kb⟩ := hr
        simp only [high_node] at h0 h h1 h2 ⊢
        have e : (node gr rr a b).fixR = if b.high < a.high then rotR gr rr a b else node gr rr a b := rfl
        rw [e]
        split
        · cases a with
          | nil => rename_i h3; simp at h3
          | node ga ra c d =>
            obtain ⟨m1, m2, kc, kd⟩ := ka
            simp only [high_node] at *
            simp only [rotL, rotR, Bal, high_node]
            refine ⟨⟨?_, ?_, ⟨?_, ?_, hl, kc⟩, ⟨?_, ?_, kd, kb⟩⟩, ?_, ?_, ?_⟩ <;> omega
        · simp only [rotL, Bal, high_node]
          refine ⟨⟨?_, ?_, ⟨?_, ?_, hl, ka⟩, kb⟩, ?_, ?_, ?_⟩ <;> omega
    · rename_i h0 h
      simp only [Bal, high_node]
      exact ⟨⟨by omega, by omega, hl, hr⟩, by omega, by omega, fun _ _ => trivial⟩
theorem addT_bal {x t : RT} (hx : Bal x) (hx1 : x.high = 1) (ht : Bal t) (k : Nat) : Bal (addT x t k) ∧ t.high ≤ (addT x t k).high ∧ (addT x t k).high ≤ t.high + 1 := by
  induction t generalizing k with
  | nil => exact ⟨hx, by simp, by simp [addT, hx1]⟩
  | node g rs l r ihl ihr =>
    obtain ⟨k1, k2, kl, kr⟩ := ht
    unfold addT
    rw [high_node]
    split
    · obtain ⟨b1, b2, b3⟩ := ihl kl k
      obtain ⟨c1, c2, c3, c4⟩ := lvl_bal (g := g) (rs := rs) b1 kr (by omega) (by omega)
      refine ⟨c1, ?_, by omega⟩
      by_cases h : (addT x l k).high ≤ r.high + 1
      · have := c4 h (by omega); omega
      · omega
    · obtain ⟨b1, b2, b3⟩ := ihr kr (k - bl l.runes - bl rs)
      obtain ⟨c1, c2, c3, c4⟩ := lvl_bal (g := g) (rs := rs) kl b1 (by omega) (by omega)
      refine ⟨c1, ?_, by omega⟩
      by_cases h : (addT x r (k - bl l.runes - bl rs)).high ≤ l.high + 1
      · have := c4 (by omega) h; omega
      · omega
theorem takeT_bal {t : RT} (ht : Bal t) (k : Nat) : Bal (takeT t k) ∧ t.high ≤ (takeT t k).high + 1 ∧ (takeT t k).high ≤ t.high := by
  induction t generalizing k with
  | nil => exact ⟨trivial, by simp [takeT], by simp [takeT]⟩
  | node g rs l r ihl ihr =>
    obtain ⟨k1, k2, kl, kr⟩ := ht
    have hR : ∀ (k : Nat) (rs : List Int), Bal (lvl g rs l (takeT r k)) ∧ 1 + max l.high r.high ≤ (lvl g rs l (takeT r k)).high + 1 ∧ (lvl g rs l (takeT r k)).high ≤ 1 + max l.high r.high := by
      intro k rs
      obtain ⟨b1, b2, b3⟩ := ihr kr k
      obtain ⟨c1, c2, c3, c4⟩ := lvl_bal (g := g) (rs := rs) kl b1 (by omega) (by omega)
      refine ⟨c1, ?_, by omega⟩
      by_cases h : l.high ≤ (takeT r k).high + 1
      · have := c4 h (by omega); omega
      · omega
    unfold takeT
    rw [high_node]
    split
    · obtain ⟨b1, b2, b3⟩ := ihl kl k
      obtain ⟨c1, c2, c3, c4⟩ := lvl_bal (g := g) (rs := rs) b1 kr (by omega) (by omega)
      refine ⟨c1, ?_, by omega⟩
      by_cases h : r.high ≤ (takeT l k).high + 1
      · have := c4 (by omega) h; omega
      · omega
    · split
      · exact hR _ _
      · split
        · rename_i h; obtain rfl := isNil_iff.1 h; exact ⟨kr, by simp; omega, by simp⟩
        · split
          · rename_i h; obtain rfl := isNil_iff.1 h; exact ⟨kl, by simp; omega, by simp⟩
          · exact hR _ _
theorem bal_nodes {t : RT} (h : Bal t) : 2 ^ (t.high / 2) ≤ t.nodes.length + 1 := by
  suffices hh : ∀ n (t : RT), Bal t → n ≤ t.high → 2 ^ (n / 2) ≤ t.nodes.length + 1 from hh _ t h (Nat.le_refl _)
  intro n
  induction n using Nat.strongRecOn with
  | _ n ih =>
    intro t h hn
    by_cases h2 : n < 2
    · have : n / 2 = 0 := by omega
      rw [this]; simp
    · cases t with
      | nil => simp at hn; omega
      | node g rs l r =>
        obtain ⟨k1, k2, kl, kr⟩ := h
        simp only [high_node] at hn
        have a := ih (n - 2) (by omega) l kl (by omega)
        have b := ih (n - 2) (by omega) r kr (by omega)
        have e : n / 2 = (n - 2) / 2 + 1 := by omega
        rw [e, Nat.pow_succ, nodes_node, List.length_append, List.length_cons]
        omega
end RT
end Go.Proofs.YtgokmldngnmmhaaDoor
/- find, edge, Counts. -/
namespace Go.Proofs.YtgokmldngnmmhaaDoor
open Go.RowKit
set_option maxRecDepth 100000
/-- A document in memory. -/
structure AtR (w : World) (p : Nat) (t : RT) : Prop where
  blk : Blk w p 169 #[t.ptr]
  tree : AtT w t
  out : p ∉ t.blocks
theorem AtR.below {w w' : World} {p : Nat} {t : RT} (h : AtR w p t) (hb : Below w.heap.size w w') : AtR w' p t := ⟨h.blk.below hb h.blk.lt, h.tree.below hb, h.out⟩
/-- A tree as the rope's functions leave it. -/
structure Good (t : RT) : Prop where
  nodup : t.blocks.Nodup
  ne : Ne t.chunks
  le : ∀ c ∈ t.chunks, bl c ≤ 32
  all : U.AllR t.runes
  bal : t.Bal
  sz : bl t.runes ≤ 8000
theorem ne_len {cs : List (List Int)} (h : Ne cs) : cs.length ≤ cs.flatten.length := by
  induction cs with
  | nil => simp
  | cons c cs ih =>
    have := ih h.tl
    have := List.length_pos_iff.2 h.hd
    simp only [List.length_cons, List.flatten_cons, List.length_append]; omega
theorem Good.sm {t : RT} (h : Good t) : Sm t.runes t.nodes.length := by
  have h1 := bl_len t.runes
  have h2 := ne_len h.ne
  have h3 := h.sz
  rw [RT.len_chunks, ← RT.runes_chunks] at h2
  exact ⟨by omega, by omega⟩
theorem Good.ap {t : RT} (h : Good t) : Ap t := ⟨h.nodup, h.sm⟩
attribute [local go_sem] Cn.v_eq field_cn cnt_b
set_option maxHeartbeats 2000000 in
theorem find_calls {p k : Nat} {t : RT} {w : World} (h : AtR w p t) (hs : bl t.runes ≤ 4398046511104) (hk : k ≤ 4398046511104) :
    Calls Tryd.prog 101 #[.pointer (some ⟨p, 0, none⟩), .int .i64 k] w fun e w' => e = .returned (.tuple #[.string ⟨(U.encs (t.findT k 0).1).toArray⟩, .int .i64 (t.findT k 0).2]) ∧ Below w.heap.size w w' := by
  have HT := Hd.mk h.tree
  have c0 := h.blk.cell 0
  have lt := h.blk.lt
  simp only [List.getElem?_toArray, List.getElem?_cons_zero] at c0
  obtain ⟨pt, hpt⟩ : ∃ x, t.pa = x := ⟨_, rfl⟩
  have HPT := Hd.mk hpt
  simp only [RT.ptr] at c0
  rw [hpt] at c0
  clear h hpt
  go_enter Tryd.func101, Tryd.ntmps101
  go_wp2_with fail
  go_loopg [6, 7] t.nodes.length (fun gk n f wr => Below w.heap.size w wr ∧ ∃ (s : RT) (fr : Nat), n = s.ptr ∧ f = .int .i64 fr ∧ AtT w s ∧ s.findT k fr = t.findT k 0 ∧ fr + bl s.runes ≤ bl t.runes ∧ s.nodes.length ≤ gk)
  case atStart => exact ⟨Below.refl _ _, t, 0, by rw [RT.ptr, HPT.out], rfl, HT.out, rfl, by omega, Nat.le_refl _⟩
  case round =>
    obtain ⟨hbw, s, fr, rfl, rfl, hat, hf, hsz, hg⟩ := hrel
    have HBW := Hd.mk hbw
    have HAT := Hd.mk hat
    have HF := Hd.mk hf
    have HG := Hd.mk hg
    clear hbw hat hf hg c0 lt
    cases s with
    | nil =>
      rw [RT.ptr_nil]
      go_wp2_with fail
      go_ret2
      rw [← HF.out]
      exact ⟨rfl, HBW.out⟩
    | node g rs l r =>
      have hb1 : bl l.runes ≤ 4398046511104 := by simp only [RT.runes_node, bl_append] at hsz; omega
      have hb2 : bl rs ≤ 4398046511104 := by simp only [RT.runes_node, bl_append] at hsz; omega
      have hf1 : fr ≤ 4398046511104 := by omega
      have HSZ := Hd.mk hsz
      clear hsz
      have hgb := HAT.out.1.below HBW.out HAT.out.1.lt
      obtain ⟨c0, c1, -, -, -, -, -, -, -, c9, c10, -⟩ := nodeV_cell hgb
      rw [cnt_b] at c1
      have lt := hgb.lt
      simp only [RT.ptr] at c9 c10
      rw [RT.ptr_node]
      clear hgb
      by_cases h1 : k < fr + bl l.runes
      · have hi : (k : Int) < (fr : Int) + (bl l.runes : Int) := by omega
        have hw : wrap64 ((fr : Int) + (bl l.runes : Int)) = (fr : Int) + (bl l.runes : Int) := by unfold wrap64; omega
        go_wp2_with (go_at_call 111; refine (all_calls (t := l) (HAT.out.2.1.below HBW.out)).mono ?_; rintro e w1 ⟨rfl, hb⟩; simp only [cnt_b, Cn.v_eq]; have hg1 := HAT.out.1.below (HBW.out.trans (hb.mono HBW.out.size)) HAT.out.1.lt; obtain ⟨c0, c1, -, -, -, -, -, -, -, c9, c10, -⟩ := nodeV_cell hg1; rw [cnt_b] at c1; have lt := hg1.lt; simp only [RT.ptr] at c9 c10; have HB := Hd.mk hb; clear hb hg1)
        go_roundg l.nodes.length
        case rel => exact ⟨HBW.out.trans (HB.out.mono HBW.out.size), l, fr, rfl, rfl, HAT.out.2.1, by rw [← HF.out]; exact (if_pos h1).symm, by have := HSZ.out; simp only [RT.runes_node, bl_append] at this; omega, Nat.le_refl _⟩
        case measure => have := HG.out; simp only [RT.nodes_node, List.length_append, List.length_cons] at this; omega
      · have hi : ¬ ((k : Int) < (fr : Int) + (bl l.runes : Int)) := by omega
        have hw : wrap64 ((fr : Int) + (bl l.runes : Int)) = (fr : Int) + (bl l.runes : Int) := by unfold wrap64; omega
        have hw2 : wrap64 ((fr : Int) + (bl l.runes : Int) + (bl rs : Int)) = (fr : Int) + (bl l.runes : Int) + (bl rs : Int) := by unfold wrap64; omega
        have hE : (RT.node g rs l r).findT k fr = if k < fr + bl l.runes + bl rs ∨ r.isNil = true then (rs, fr + bl l.runes) else r.findT k (fr + bl l.runes + bl rs) := if_neg h1
        by_cases h2 : k < fr + bl l.runes + bl rs
        · have hi2 : (k : Int) < (fr : Int) + (bl l.runes : Int) + (bl rs : Int) := by omega
          have HE : Hd (t.findT k 0 = (rs, fr + bl l.runes)) := ⟨by rw [← HF.out, hE, if_pos (.inl h2)]⟩
          clear hE
          go_wp2_with (go_at_call 111; refine (all_calls (t := l) (HAT.out.2.1.below HBW.out)).mono ?_; rintro e w1 ⟨rfl, hb⟩; simp only [cnt_b, Cn.v_eq]; have hg1 := HAT.out.1.below (HBW.out.trans (hb.mono HBW.out.size)) HAT.out.1.lt; obtain ⟨c0, c1, -, -, -, -, -, -, -, c9, c10, -⟩ := nodeV_cell hg1; rw [cnt_b] at c1; have lt := hg1.lt; simp only [RT.ptr] at c9 c10; have HB := Hd.mk hb; clear hb hg1)

          go_ret2
          rw [HE.out]
          exact ⟨by simp, HBW.out.trans (HB.out.mono HBW.out.size)⟩
        · have hi2 : ¬ ((k : Int) < (fr : Int) + (bl l.runes : Int) + (bl rs : Int)) := by omega
          cases r with
          | nil =>
            have HE : Hd (t.findT k 0 = (rs, fr + bl l.runes)) := ⟨by rw [← HF.out, hE, if_pos (.inr rfl)]⟩
            clear hE
            go_wp2_with (go_at_call 111; refine (all_calls (t := l) (HAT.out.2.1.below HBW.out)).mono ?_; rintro e w1 ⟨rfl, hb⟩; simp only [cnt_b, Cn.v_eq]; have hg1 := HAT.out.1.below (HBW.out.trans (hb.mono HBW.out.size)) HAT.out.1.lt; obtain ⟨c0, c1, -, -, -, -, -, -, -, c9, c10, -⟩ := nodeV_cell hg1; rw [cnt_b] at c1; have lt := hg1.lt; rw [RT.ptr_nil] at c10; simp only [RT.ptr] at c9; have HB := Hd.mk hb; clear hb hg1)
            go_ret2
            rw [HE.out]
            exact ⟨by simp, HBW.out.trans (HB.out.mono HBW.out.size)⟩
          | node g2 rs2 l2 r2 =>
            obtain ⟨f2, hf2⟩ : ∃ f2, f2 = fr + bl l.runes + bl rs := ⟨_, rfl⟩
            have HE : Hd ((RT.node g2 rs2 l2 r2).findT k f2 = t.findT k 0) := ⟨by rw [hf2]; rw [← HF.out, hE, if_neg (by rintro (e | e); exact h2 e; cases e)]⟩
            have HF2 : Hd (f2 = fr + bl l.runes + bl rs) := ⟨hf2⟩
            clear hE hf2
            go_wp2_with (go_at_call 111; refine (all_calls (t := l) (HAT.out.2.1.below HBW.out)).mono ?_; rintro e w1 ⟨rfl, hb⟩; simp only [cnt_b, Cn.v_eq]; have hg1 := HAT.out.1.below (HBW.out.trans (hb.mono HBW.out.size)) HAT.out.1.lt; obtain ⟨c0, c1, -, -, -, -, -, -, -, c9, c10, -⟩ := nodeV_cell hg1; rw [cnt_b] at c1; have lt := hg1.lt; rw [RT.ptr_node] at c10; simp only [RT.ptr] at c9; have HB := Hd.mk hb; clear hb hg1)
            go_roundg (RT.node g2 rs2 l2 r2).nodes.length
            case rel => exact ⟨HBW.out.trans (HB.out.mono HBW.out.size), .node g2 rs2 l2 r2, f2, rfl, by congr 1; have := HF2.out; omega, HAT.out.2.2, HE.out, by have h1 := HSZ.out; have h2 := HF2.out; simp only [RT.runes_node, bl_append] at h1 ⊢; omega, Nat.le_refl _⟩
            case measure => have := HG.out; simp only [RT.nodes_node, List.length_append, List.length_cons] at this ⊢; omega
end Go.Proofs.YtgokmldngnmmhaaDoor
/- High, Many; how low a tree is. -/
namespace Go.Proofs.YtgokmldngnmmhaaDoor
open Go.RowKit
set_option maxRecDepth 100000
theorem rhigh_calls {p : Nat} {t : RT} {w : World} (h : AtR w p t) : Calls Tryd.prog 64 #[.pointer (some ⟨p, 0, none⟩)] w fun e w' => e = .returned (.int .i64 t.high) ∧ Below w.heap.size w w' := by
  have c0 := h.blk.cell 0
  have cl := h.blk.lt
  simp only [List.getElem?_toArray, List.getElem?_cons_zero, RT.ptr] at c0
  have HT := Hd.mk (high_q h.tree)
  clear h
  go_enter Tryd.func64, Tryd.ntmps64
  go_wp2_with (go_at_call 113; refine HT.out.mono ?_; rintro e w1 ⟨rfl, rfl⟩)
  go_ret
  exact ⟨rfl, Below.refl _ _⟩
/-- The closure that counts chunks. -/
def manyV (v : Nat) : Value := .func (.func 114) #[] #[.pointer (some ⟨v, 0, none⟩)]
set_option maxHeartbeats 2000000 in
theorem many1_calls {v : Nat} {t : RT} {w : World} (ht : AtT w t) (hv : Blk w v 192 #[manyV v]) (hn : t.nodes.length ≤ 1000000) :
    Calls Tryd.prog 114 #[t.ptr, .pointer (some ⟨v, 0, none⟩)] w fun e w' => e = .returned (.int .i64 t.nodes.length) ∧ ∃ m, w' = w.drewN m := by
  induction t generalizing w with
  | nil =>
    rw [RT.ptr_nil]
    clear ht hv hn
    go_enter Tryd.func114, Tryd.ntmps114
    go_wp2_with fail
    go_ret
    exact ⟨rfl, 0, rfl⟩
  | node g rs a c iha ihc =>
    rw [RT.nodes_node, List.length_append, List.length_cons] at hn
    obtain ⟨c0, -, -, -, -, -, -, -, -, c9, c10, -⟩ := nodeV_cell ht.1
    have cl := ht.1.lt
    have cf := ht.1.frozen
    have v0 := hv.cell 0
    have vl := hv.lt
    simp only [List.getElem?_toArray, List.getElem?_cons_zero, manyV] at v0
    simp only [RT.ptr] at c9 c10
    rw [RT.ptr_node]
    have HT := Hd.mk ht
    have HV := Hd.mk hv
    obtain ⟨na, hna⟩ : ∃ x, x = a.nodes.length := ⟨_, rfl⟩
    obtain ⟨nc, hnc⟩ : ∃ x, x = c.nodes.length := ⟨_, rfl⟩
    have HSUM : Hd (((RT.node g rs a c).nodes.length : Int) = 1 + (na : Int) + (nc : Int)) := ⟨by rw [RT.nodes_node, List.length_append, List.length_cons, hna, hnc]; omega⟩
    rw [← hna, ← hnc] at hn
    have IA := fun m => Hd.mk (iha (w := w.drewN m) (HT.out.2.1.drewN m) (HV.out.below (ex_drewN m (Below.refl _ _)) HV.out.lt) (by omega))
    have IC := fun m => Hd.mk (ihc (w := w.drewN m) (HT.out.2.2.drewN m) (HV.out.below (ex_drewN m (Below.refl _ _)) HV.out.lt) (by omega))
    simp only [← hna] at IA
    simp only [← hnc] at IC
    rw [HSUM.out]
    have hw1 : IntKind.i64.wrap (1 + (na : Int)) = 1 + (na : Int) := by rw [IntKind.wrap_i64] <;> omega
    have hw2 : IntKind.i64.wrap (1 + (na : Int) + (nc : Int)) = 1 + (na : Int) + (nc : Int) := by rw [IntKind.wrap_i64] <;> omega
    clear ht hv iha ihc hna hnc HSUM
    go_enter Tryd.func114, Tryd.ntmps114
    go_wp2_with fail
    go_quiet (first
      | (go_at_call_of 114 (Value.pointer a.pa); exact Calls.quiet_of (IA _).out)
      | (go_at_call_of 114 (Value.pointer c.pa); exact Calls.quiet_of (IC _).out))
    go_wp2_with fail
    go_ret
    exact ⟨rfl, _, rfl⟩
set_option maxHeartbeats 2000000 in
theorem many_calls {p : Nat} {t : RT} {w : World} (h : AtR w p t) (hn : t.nodes.length ≤ 1000000) :
    Calls Tryd.prog 65 #[.pointer (some ⟨p, 0, none⟩)] w fun e w' => e = .returned (.int .i64 t.nodes.length) ∧ Below w.heap.size w w' := by
  have hb : Below w.heap.size w (w.alloc (.cells #[manyV w.heap.size] 192)) := ex_alloc (Below.refl _ _) _
  have hv : Blk (w.alloc (.cells #[manyV w.heap.size] 192)) w.heap.size 192 #[manyV w.heap.size] := Blk.new w 192 #[manyV w.heap.size]
  have HB := Hd.mk hb
  have HV := Hd.mk hv
  have HR := Hd.mk h
  have HN := Hd.mk hn
  clear h hn hb hv
  go_enter Tryd.func65, Tryd.ntmps65
  go_wp2_with fail
  unfold manyV at HB HV
  generalize w.alloc (.cells #[Value.func (.func 114) #[] #[.pointer (some ⟨w.heap.size, 0, none⟩)]] 192) = wa at HB HV ⊢
  have HA := Hd.mk (HR.out.below HB.out)
  have c0 := HA.out.blk.cell 0
  have cl := HA.out.blk.lt
  have v0 := HV.out.cell 0
  have vl := HV.out.lt
  simp only [List.getElem?_toArray, List.getElem?_cons_zero, RT.ptr] at c0 v0
  go_quiet (first | (go_at_call 114; exact Calls.quiet_of (many1_calls (HA.out.tree.drewN _) (HV.out.below (ex_drewN _ (Below.refl _ _)) HV.out.lt) HN.out)))
  go_wp2_with fail
  go_ret
  exact ⟨rfl, ex_drewN _ HB.out⟩
theorem low_high (t : RT) : t.high ≤ t.nodes.length := by
  induction t with
  | nil => simp
  | node g rs l r ihl ihr => rw [RT.high_node, RT.nodes_node, List.length_append, List.length_cons]; omega
/-- A tree is low. -/
structure Low (n m : Nat) : Prop where
  z : m = 0 → n = 0
  one : m ≠ 0 → 1 ≤ n
  le : n ≤ m
  two : 2 ^ (n / 2) ≤ m + 1
theorem low_of {t : RT} (h : t.Bal) : Low t.high t.nodes.length := by
  refine ⟨fun e => ?_, fun e => ?_, low_high t, RT.bal_nodes h⟩
  · have := low_high t; omega
  · cases t with
    | nil => simp at e
    | node g rs l r => rw [RT.high_node]; omega
theorem low_end {n m j : Nat} (h : Low n m) (hj : (m + 1) / 2 ^ j = 0) : n ≤ 2 * j := by
  have h1 : m + 1 < 2 ^ j := (Nat.div_eq_zero_iff_lt (Nat.two_pow_pos j)).1 hj
  have h2 : 2 ^ (n / 2) < 2 ^ j := by have := h.two; omega
  have := (Nat.pow_lt_pow_iff_right (by omega : 1 < 2)).1 h2
  omega
theorem low_start (m : Nat) : (m + 1) / 2 ^ (m + 1) = 0 := Nat.div_eq_of_lt Nat.lt_two_pow_self
set_option maxHeartbeats 2000000 in
theorem low_calls {n m : Nat} (h : Low n m) (hm : m ≤ 1000000) (w : World) : Calls Tryd.prog 63 #[.int .i64 n, .int .i64 m] w fun e w' => e = .returned (.bool true) ∧ w' = w := by
  have HL := Hd.mk h
  have hnm : n ≤ 1000000 := by have := h.le; omega
  clear h
  go_enter Tryd.func63, Tryd.ntmps63
  go_wp2_with fail
  go_loopg [5, 6] (m + 1) (fun gk bv kv wr => ∃ j k : Nat, bv = .int .i64 (j : Int) ∧ kv = .int .i64 (k : Int) ∧ k = (m + 1) / 2 ^ j ∧ k + j ≤ m + 1 ∧ gk + j = m + 1 ∧ wr = w)
  case atStart => exact ⟨0, m + 1, rfl, by simp, by simp, by omega, by omega, rfl⟩
  case round =>
    obtain ⟨j, k, rfl, rfl, hk, hkj, hj, rfl⟩ := hrel
    by_cases h7 : 0 < k
    · have h8 : (0 : Int) < (k : Int) := by omega
      have HK := Hd.mk hk
      have HJ := Hd.mk hj
      have hk2 : Hd (k / 2 = (m + 1) / 2 ^ (j + 1)) := ⟨by rw [hk, Nat.div_div_eq_div_mul, Nat.pow_succ]⟩
      have hk3 : k / 2 + (j + 1) ≤ m + 1 := by omega
      have hdv : wrap64 ((k : Int) / 2) = (k : Int) / 2 := by unfold wrap64; omega
      have HK3 := Hd.mk hk3
      have hj0 : j < m + 1 := by omega
      clear hk hj hk3 hkj
      go_wp2_with fail
      go_roundg (m + 1 - (j + 1))
      case rel => exact ⟨j + 1, k / 2, by simp, by rw [hdv]; simp, hk2.out, HK3.out, by omega, rfl⟩
      case measure => have := HJ.out; omega
    · obtain rfl : k = 0 := by omega
      have hend := low_end HL.out hk.symm
      have hj1 : j ≤ m + 1 := by omega
      clear hk hj h7 hkj
      by_cases h0 : m = 0
      · subst h0
        obtain rfl := HL.out.z rfl
        go_wp2_with fail
        go_ret
        exact ⟨rfl, rfl⟩
      · have a1 : ¬ ((m : Int) = 0) := by omega
        have a2 := HL.out.one h0
        have a3 := HL.out.le
        have b1 : decide ((1 : Int) ≤ (n : Int)) = true := decide_eq_true (by omega)
        have b2 : (n : Int) ≤ 2 * (j : Int) := by omega
        have b3 : (n : Int) ≤ (m : Int) := by omega
        have b4 : (1 : Int) ≤ (n : Int) := by omega
        go_wp2_with fail
        go_ret
        exact ⟨rfl, rfl⟩
end Go.Proofs.YtgokmldngnmmhaaDoor
