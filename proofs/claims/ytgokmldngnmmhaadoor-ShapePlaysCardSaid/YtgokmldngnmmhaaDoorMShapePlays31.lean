/- Several texts of the proof, one behind the other: RopeD, RopeE, RopeF. -/
import Derived.Test.YtgokmldngnmmhaaDoorMShapePlays30
import Derived.Deep.LoopGhost
import Derived.BigRegion
import Derived.Test.YtgokmldngnmmhaaDoorMShapePlays25
/- take. -/
namespace Go.Proofs.YtgokmldngnmmhaaDoor
open Go.RowKit
set_option maxRecDepth 100000
theorem Ap.less {t u : RT} (h : Ap t) (hs : u.blocks.Sublist t.blocks) (hr : u.runes.length ≤ t.runes.length) : Ap u :=
  ⟨h.nodup.sublist hs, h.sm.le hr (by have := hs.length_le; rwa [RT.len_blocks, RT.len_blocks] at this)⟩
theorem runes_len (t : RT) : t.runes.length = t.chunks.flatten.length := by rw [RT.runes_chunks]
theorem take_len {t : RT} {k : Nat} (hne : Ne t.chunks) (hk : ∃ a c b, t.chunks = a ++ c :: b ∧ cb a = k) : (t.takeT k).runes.length ≤ t.runes.length := by
  obtain ⟨a, c, b, h, hk⟩ := hk
  rw [runes_len, RT.takeT_chunks hne h hk, runes_len, h]
  simp
theorem take_first_len {t : RT} (hne : Ne t.chunks) (h : t ≠ .nil) : (t.first ++ (t.takeT 0).runes).length = t.runes.length := by
  obtain ⟨b, e⟩ := RT.first_chunks h
  have := RT.takeT_chunks (a := []) (k := 0) hne e rfl
  rw [List.length_append, runes_len, this, runes_len, e]
  simp
/-- Which part the chunk lies in. -/
theorem take_split {l r : List (List Int)} {rs : List Int} {k : Nat} (hne : Ne (l ++ rs :: r)) (hk : ∃ a c b, l ++ rs :: r = a ++ c :: b ∧ cb a = k) :
    (k < cb l ∧ ∃ a c b, l = a ++ c :: b ∧ cb a = k) ∨ k = cb l ∨ (cb l + bl rs ≤ k ∧ ∃ a c b, r = a ++ c :: b ∧ cb a = k - cb l - bl rs) := by
  obtain ⟨a, c, b, h, hk⟩ := hk
  rcases split3 h with ⟨d, h1, h2⟩ | ⟨d, rfl, h2⟩
  · cases d with
    | nil => right; left; simp at h1; rw [h1, hk]
    | cons y d =>
      left
      simp only [List.cons_append, List.cons.injEq] at h2
      obtain ⟨rfl, -⟩ := h2
      have : 0 < bl c := bl_pos (hne c (by rw [h1]; simp))
      exact ⟨by rw [h1, cb_append, cb_cons]; omega, a, c, d, h1, hk⟩
  · right; right
    rw [cb_append, cb_cons] at hk
    exact ⟨by omega, d, c, b, h2, by omega⟩
def spine : RT → Nat
  | .nil => 0
  | .node _ _ l _ => 1 + spine l
theorem first_node {g : Nat} {rs : List Int} {l r : RT} (h : l ≠ .nil) : (RT.node g rs l r).first = l.first := by
  show (if l.isNil = true then rs else l.first) = _
  rw [if_neg (fun e => h (RT.isNil_iff.1 e))]
theorem node_fst {w : World} {g : Nat} {rs rs' : List Int} {all : Cn} {l r : Value} {h : Int} (hb : Blk w g 177 (nodeV rs all l r h)) :
    Blk (((((w.setCell ⟨g, 0, none⟩ (.string ⟨(U.encs rs').toArray⟩)).setCell ⟨g, 1, none⟩ (.int .i64 (cnt rs').b)).setCell ⟨g, 2, none⟩ (.int .i64 (cnt rs').h)).setCell ⟨g, 3, none⟩ (.int .i64 (cnt rs').r)).setCell ⟨g, 4, none⟩ (.int .i64 (cnt rs').l)) g 177 (nodeV rs' all l r h) :=
  ((((hb.set_ 0 _).set_ 1 _).set_ 2 _).set_ 3 _).set_ 4 _
attribute [local go_sem] Cn.v_eq field_cn
set_option maxHeartbeats 2000000 in
theorem take_calls {t : RT} {k : Nat} {w : World} (ht : AtT w t) (hne : Ne t.chunks) (hd : Ap t) (hk : ∃ a c b, t.chunks = a ++ c :: b ∧ cb a = k) :
    Calls Tryd.prog 102 #[t.ptr, .int .i64 k] w fun e w' => e = .returned (RT.takeT t k).ptr ∧ AtT w' (RT.takeT t k) ∧ Only (fun b => b ∈ t.blocks) w w' := by
  induction t generalizing k w with
  | nil => obtain ⟨a, c, b, h, -⟩ := hk; simp at h
  | node g rs l r ihl ihr =>
    obtain ⟨-, c1, -, -, -, -, -, -, -, c9, c10, -⟩ := nodeV_cell ht.1
    have lt := ht.1.lt
    have fr := ht.1.frozen
    have HT := Hd.mk ht
    have HD := Hd.mk hd
    simp only [RT.chunks_node] at hne hk
    have hsm := bl_pos hne.r.hd
    have hlen := hd.sm.len
    have hb1 : bl l.runes ≤ 4398046511104 := by have := cnt_b l.runes; obtain ⟨⟨b0, b1, -⟩, -, -⟩ := cnt_in l.runes; simp only [RT.runes_node, List.length_append] at hlen; omega
    have hb2 : bl rs ≤ 4398046511104 := by have := cnt_b rs; obtain ⟨⟨b0, b1, -⟩, -, -⟩ := cnt_in rs; simp only [RT.runes_node, List.length_append] at hlen; omega
    have hb3 : bl r.runes ≤ 4398046511104 := by have := cnt_b r.runes; obtain ⟨⟨b0, b1, -⟩, -, -⟩ := cnt_in r.runes; simp only [RT.runes_node, List.length_append] at hlen; omega
    rw [RT.ptr_node]
    rw [cnt_b] at c1
    have hcase := take_split hne hk
    rw [cb_runes] at hcase
    rcases hcase with ⟨h, hkl⟩ | h | ⟨h, hkr⟩
    · have hi : (k : Int) < (bl l.runes : Int) := by omega
      have HE : Hd (RT.takeT (.node g rs l r) k = RT.lvl g rs (RT.takeT l k) r) := ⟨by show (if _ then _ else _) = _; rw [if_pos h]⟩
      have HA : Hd (Ap (.node g rs (RT.takeT l k) r)) := ⟨hd.less (by rw [RT.blocks_node, RT.blocks_node]; exact (RT.takeT_sub l k).append_right _) (by have := take_len hne.l hkl; simp only [RT.runes_node, List.length_append]; omega)⟩
      have HI := fun w1 (hb : Below w.heap.size w w1) => Hd.mk (ihl (k := k) (w := w1) (ht.2.1.below hb) hne.l hd.onL hkl)
      have HN : Hd ((∀ b ∈ r.blocks, ¬ b ∈ l.blocks) ∧ ¬ g ∈ l.blocks) := ⟨⟨fun b hb e => hd.lr b e hb, hd.nl⟩⟩
      clear h hk hkl hd hne ihl ihr ht hlen hsm
      simp only [RT.ptr] at c9 c10 ⊢
      go_enter Tryd.func102, Tryd.ntmps102
      go_wp2_with (first
        | (go_at_call 111; refine (all_calls (t := l) HT.out.2.1).mono ?_; rintro e w1 ⟨rfl, hb⟩; simp only [cnt_b, Cn.v_eq]; have hg1 := HT.out.1.below hb HT.out.1.lt; obtain ⟨-, c1, -, -, -, -, -, -, -, c9, c10, -⟩ := nodeV_cell hg1; rw [cnt_b] at c1; have lt := hg1.lt; have fr := hg1.frozen; simp only [RT.ptr] at c9 c10; have HB := Hd.mk hb; clear hb hg1)
        | (go_at_call 102; refine (HI _ (HB.out)).out.mono ?_; rintro e w2 ⟨he, ht2, ho2⟩; simp only [RT.ptr] at he; obtain rfl := he; have hg2 := (HT.out.1.below (HB.out) HT.out.1.lt).only ho2 HN.out.2; obtain ⟨-, c1, -, -, -, -, -, -, -, c9, c10, -⟩ := nodeV_cell hg2; have lt := hg2.lt; have fr := hg2.frozen; simp only [RT.ptr] at c9 c10; have HG2 := Hd.mk hg2; have HT2 := Hd.mk ht2; have HO2 := Hd.mk ho2; clear hg2 ht2 ho2)
        | (go_at_call 132; refine (level_calls (g := g) (rs := rs) (l := RT.takeT l k) (r := r) (raw_left HG2.out HT2.out ((HT.out.2.2.below HB.out).only HO2.out HN.out.1) HA.out.nl HA.out.nr) HA.out).mono ?_; rintro e w3 ⟨he, ht3, ho3⟩; simp only [RT.ptr] at he; obtain rfl := he; have HT3 := Hd.mk ht3; have HO3 := Hd.mk ho3; clear ht3 ho3))
      go_ret
      rw [HE.out]
      refine ⟨rfl, HT3.out, ((only_set (((Only.of_below HB.out).trans (HO2.out.mono ?_))) ?_).trans (HO3.out.mono ?_))⟩
      · rintro k - h; simp [h]
      · simp
      · rintro k - h
        simp only [RT.blocks_node, List.mem_append, List.mem_cons] at h ⊢
        rcases h with h | h | h
        · exact .inl ((RT.takeT_sub _ _).subset h)
        · exact .inr (.inl h)
        · exact .inr (.inr h)
    · have hi : ¬ ((k : Int) < (bl l.runes : Int)) := by omega
      have hi2 : ¬ ((bl l.runes : Int) < (k : Int)) := by omega
      have hE0 : RT.takeT (.node g rs l r) k = if l.isNil then r else if r.isNil then l else RT.lvl g r.first l (RT.takeT r 0) := by show (if _ then _ else _) = _; rw [if_neg (by omega), if_neg (by omega)]
      by_cases hl : l = .nil
      · subst hl
        have HE : Hd (RT.takeT (.node g rs .nil r) k = r) := ⟨by rw [hE0]; rfl⟩
        obtain rfl : k = 0 := h
        obtain ⟨pr, hpr⟩ : ∃ p, r.pa = p := ⟨_, rfl⟩
        have HPR := Hd.mk hpr
        clear hk hd hne ihl ihr ht hlen hsm hE0 hi hi2 hb1 hpr
        rw [RT.ptr_nil] at c9
        simp only [RT.ptr] at c10 ⊢
        rw [HPR.out] at c10
        go_enter Tryd.func102, Tryd.ntmps102
        go_wp2_with (go_at_call 111;  refine (all_calls (t := .nil) HT.out.2.1).mono ?_; rintro e w1 ⟨rfl, hb⟩; simp only [cnt_b, Cn.v_eq, RT.runes_nil, bl_nil]; have hg1 := HT.out.1.below hb HT.out.1.lt; obtain ⟨-, c1, -, -, -, -, -, -, -, c9, c10, -⟩ := nodeV_cell hg1; rw [cnt_b] at c1; have lt := hg1.lt; have fr := hg1.frozen; rw [RT.ptr_nil] at c9; simp only [RT.ptr] at c10; rw [HPR.out] at c10; have HB := Hd.mk hb; clear hb hg1)
        go_ret
        rw [HE.out]
        exact ⟨by rw [HPR.out]; rfl, HT.out.2.2.below HB.out, Only.of_below HB.out⟩
      · by_cases hr : r = .nil
        · subst hr
          have HE : Hd (RT.takeT (.node g rs l .nil) k = l) := ⟨by rw [hE0, if_neg (fun e => hl (RT.isNil_iff.1 e))]; rfl⟩
          cases l with
          | nil => exact absurd rfl hl
          | node gl rl ll lr =>
            have HB0 : Hd (bl (RT.node gl rl ll lr).runes = k) := ⟨h.symm⟩
            rw [HB0.out] at hi hi2 hb1
            clear h hk hd hne ihl ihr ht hlen hsm hE0 hl
            rw [RT.ptr_nil] at c10
            rw [RT.ptr_node] at c9
            simp only [RT.ptr] at ⊢
            go_enter Tryd.func102, Tryd.ntmps102
            go_wp2_with (go_at_call 111;  refine (all_calls (t := .node gl rl ll lr) HT.out.2.1).mono ?_; rintro e w1 ⟨rfl, hb⟩; simp only [cnt_b, Cn.v_eq]; have hg1 := HT.out.1.below hb HT.out.1.lt; obtain ⟨-, c1, -, -, -, -, -, -, -, c9, c10, -⟩ := nodeV_cell hg1; rw [cnt_b] at c1; have lt := hg1.lt; have fr := hg1.frozen; rw [RT.ptr_node] at c9; rw [RT.ptr_nil] at c10; rw [HB0.out]; have HB := Hd.mk hb; clear hb hg1)
            go_ret
            rw [HE.out]
            exact ⟨rfl, HT.out.2.1.below HB.out, Only.of_below HB.out⟩
        · have HE : Hd (RT.takeT (.node g rs l r) k = RT.lvl g r.first l (RT.takeT r 0)) := ⟨by rw [hE0, if_neg (fun e => hl (RT.isNil_iff.1 e)), if_neg (fun e => hr (RT.isNil_iff.1 e))]⟩
          obtain ⟨b, hfc⟩ := RT.first_chunks hr
          have HA : Hd (Ap (.node g r.first l (RT.takeT r 0))) := ⟨hd.less (by rw [RT.blocks_node, RT.blocks_node]; exact ((RT.takeT_sub r 0).cons_cons _).append_left _) (by have := take_first_len hne.r.tl hr; simp only [RT.runes_node, List.length_append] at this ⊢; omega)⟩
          have HI := fun w1 (hr : AtT w1 r) => Hd.mk (ihr (k := 0) (w := w1) hr hne.r.tl hd.onR ⟨[], _, _, hfc, rfl⟩)
          have HN : Hd ((∀ b ∈ l.blocks, ¬ b ∈ r.blocks) ∧ ¬ g ∈ r.blocks ∧ ¬ g ∈ l.blocks) := ⟨⟨fun b hb e => hd.lr b hb e, hd.nr, hd.nl⟩⟩
          have HR : Hd (r ≠ .nil) := ⟨hr⟩
          obtain ⟨al, hpl⟩ : ∃ al, l.pa = some al := by cases l with
            | nil => exact absurd rfl hl
            | node => exact ⟨_, rfl⟩
          obtain ⟨ar, hpr⟩ : ∃ al, r.pa = some al := by cases r with
            | nil => exact absurd rfl hr
            | node => exact ⟨_, rfl⟩
          have HPL := Hd.mk hpl
          have HPR := Hd.mk hpr
          clear h hk hd hne ihl ihr ht hlen hsm hE0 hl hr hfc b hpl hpr
          simp only [RT.ptr] at c9 c10 ⊢
          rw [HPL.out] at c9
          rw [HPR.out] at c10
          go_enter Tryd.func102, Tryd.ntmps102
          go_wp2_with (go_at_call 111; rw [← HPL.out]; refine (all_calls (t := l) HT.out.2.1).mono ?_; rintro e w1 ⟨rfl, hb⟩; simp only [cnt_b, Cn.v_eq]; have hg1 := HT.out.1.below hb HT.out.1.lt; obtain ⟨c0, c1, c2, c3, c4, -, -, -, -, c9, c10, -⟩ := nodeV_cell hg1; rw [cnt_b] at c1; have lt := hg1.lt; have fr := hg1.frozen; simp only [RT.ptr] at c9 c10; rw [HPL.out] at c9; rw [HPR.out] at c10; have HB := Hd.mk hb; clear hb hg1)
          go_loopg [6] (spine r) (fun gk f wr => wr = w1 ∧ ∃ t : RT, f = t.ptr ∧ t ≠ .nil ∧ AtT w1 t ∧ t.first = r.first ∧ spine t = gk)
          case atStart => exact ⟨rfl, r, by rw [RT.ptr, HPR.out], HR.out, HT.out.2.2.below HB.out, rfl, rfl⟩
          case round =>
            obtain ⟨hw, t, rfl, hn, hat, hf, hg⟩ := hrel
            rw [hw]
            have HTT := Hd.mk hat
            have HFF := Hd.mk hf
            have HGG := Hd.mk hg
            cases t with
            | nil => exact absurd rfl hn
            | node g2 rs2 l2 r2 =>
              obtain ⟨d0, d1, d2, d3, d4, -, -, -, -, d9, -, -⟩ := nodeV_cell HTT.out.1
              have lt2 := HTT.out.1.lt
              clear hw hn hat hf hg
              rw [RT.ptr_node]
              cases l2 with
              | nil =>
                rw [RT.ptr_nil] at d9
                go_wp2_with fail
                go_region
                obtain rfl : rs2 = r.first := HFF.out
                have hss := node_fst (rs' := r.first) (HT.out.1.below HB.out HT.out.1.lt)
                have hoo : Only (fun b => b = g) w1 (((((w1.setCell ⟨g, 0, none⟩ (.string ⟨(U.encs r.first).toArray⟩)).setCell ⟨g, 1, none⟩ (.int .i64 (cnt r.first).b)).setCell ⟨g, 2, none⟩ (.int .i64 (cnt r.first).h)).setCell ⟨g, 3, none⟩ (.int .i64 (cnt r.first).r)).setCell ⟨g, 4, none⟩ (.int .i64 (cnt r.first).l)).drew :=
                  (only_set (only_set (only_set (only_set (only_set (Only.refl (fun b => b = g) w1) rfl) rfl) rfl) rfl) rfl).drew
                generalize (((((w1.setCell ⟨g, 0, none⟩ (.string ⟨(U.encs r.first).toArray⟩)).setCell ⟨g, 1, none⟩ (.int .i64 (cnt r.first).b)).setCell ⟨g, 2, none⟩ (.int .i64 (cnt r.first).h)).setCell ⟨g, 3, none⟩ (.int .i64 (cnt r.first).r)).setCell ⟨g, 4, none⟩ (.int .i64 (cnt r.first).l)) = wf at hss hoo ⊢
                replace hss : Blk wf.drew g _ _ := hss
                generalize wf.drew = wg at hss hoo ⊢
                clear wf
                have HRR := Hd.mk ((HT.out.2.2.below HB.out).only hoo (fun b hb e => HN.out.2.1 (e ▸ hb)))
                have HLL := Hd.mk ((HT.out.2.1.below HB.out).only hoo (fun b hb e => HN.out.2.2 (e ▸ hb)))
                clear c0 c1 c2 c3 c4 c9 c10 lt fr d0 d1 d2 d3 d4 d9 lt2
                obtain ⟨-, -, -, -, -, -, -, -, -, c9, c10, -⟩ := nodeV_cell hss
                have lt := hss.lt
                have fr := hss.frozen
                simp only [RT.ptr] at c9 c10
                rw [HPR.out] at c10
                have HSS := Hd.mk hss
                have HOO := Hd.mk hoo
                clear hss hoo
                go_wp2_with (first
                  | (go_at_call 102; rw [← HPR.out]; refine (HI _ HRR.out).out.mono ?_; rintro e w2 ⟨he, ht2, ho2⟩; simp only [RT.ptr] at he; obtain rfl := he; have hg2 := HSS.out.only ho2 HN.out.2.1; obtain ⟨-, c1, -, -, -, -, -, -, -, c9, c10, -⟩ := nodeV_cell hg2; have lt := hg2.lt; have fr := hg2.frozen; simp only [RT.ptr] at c9 c10; have HG2 := Hd.mk hg2; have HT2 := Hd.mk ht2; have HO2 := Hd.mk ho2; clear hg2 ht2 ho2)
                  | (go_at_call 132; refine (level_calls (g := g) (rs := r.first) (l := l) (r := RT.takeT r 0) (raw_right HG2.out (HLL.out.only HO2.out HN.out.1) HT2.out HA.out.nl HA.out.nr) HA.out).mono ?_; rintro e w3 ⟨he, ht3, ho3⟩; simp only [RT.ptr] at he; obtain rfl := he; have HT3 := Hd.mk ht3; have HO3 := Hd.mk ho3; clear ht3 ho3))
                go_ret
                rw [HE.out]
                refine ⟨rfl, HT3.out, ((only_set ((((Only.of_below HB.out).trans (HOO.out.mono ?_))).trans (HO2.out.mono ?_)) ?_).trans (HO3.out.mono ?_))⟩
                · rintro k - rfl; simp
                · rintro k - h; simp [h]
                · simp
                · rintro k - h
                  simp only [RT.blocks_node, List.mem_append, List.mem_cons] at h ⊢
                  rcases h with h | h | h
                  · exact .inl h
                  · exact .inr (.inl h)
                  · exact .inr (.inr ((RT.takeT_sub _ _).subset h))
              | node g3 rs3 l3 r3 =>
                rw [RT.ptr_node] at d9
                go_wp2_with fail
                go_roundg (spine (.node g3 rs3 l3 r3))
                case rel => exact ⟨rfl, .node g3 rs3 l3 r3, rfl, (by intro e; cases e), HTT.out.2.1, (first_node (g := g2) (rs := rs2) (r := r2) (by intro e; cases e)).symm.trans HFF.out, rfl⟩
                case measure => rw [← HGG.out]; simp only [spine]; omega
    · have hi : ¬ ((k : Int) < (bl l.runes : Int)) := by omega
      have hi2 : (bl l.runes : Int) < (k : Int) := by omega
      obtain ⟨k2, hk2⟩ : ∃ k2, k2 = k - bl l.runes - bl rs := ⟨_, rfl⟩
      have HE : Hd (RT.takeT (.node g rs l r) k = RT.lvl g rs l (RT.takeT r k2)) := ⟨by show (if _ then _ else _) = _; rw [if_neg (by omega), if_pos (by omega), hk2]⟩
      have hkr2 : ∃ a c b, r.chunks = a ++ c :: b ∧ cb a = k2 := by rw [hk2]; exact hkr
      have hkb : k2 ≤ bl r.runes := by obtain ⟨a, c, b, e, e2⟩ := hkr2; rw [← cb_runes, e, cb_append]; omega
      have HA : Hd (Ap (.node g rs l (RT.takeT r k2))) := ⟨hd.less (by rw [RT.blocks_node, RT.blocks_node]; exact ((RT.takeT_sub r k2).cons_cons _).append_left _) (by have := take_len hne.r.tl hkr2; simp only [RT.runes_node, List.length_append]; omega)⟩
      have HI := fun w1 (hb : Below w.heap.size w w1) => Hd.mk (ihr (k := k2) (w := w1) (ht.2.2.below hb) hne.r.tl hd.onR hkr2)
      have HN : Hd ((∀ b ∈ l.blocks, ¬ b ∈ r.blocks) ∧ ¬ g ∈ r.blocks) := ⟨⟨fun b hb e => hd.lr b hb e, hd.nr⟩⟩
      have HW : Hd (IntKind.i64.wrap (IntKind.i64.wrap ((k : Int) - (bl l.runes : Int)) - (bl rs : Int)) = (k2 : Int)) := ⟨by rw [IntKind.wrap_i64 (n := (k : Int) - (bl l.runes : Int)), IntKind.wrap_i64] <;> omega⟩
      clear h hk hkr hkr2 hk2 hkb hd hne ihl ihr ht hlen hsm hb3
      simp only [RT.ptr] at c9 c10 ⊢
      go_enter Tryd.func102, Tryd.ntmps102
      go_wp2_with (go_at_call 111; refine (all_calls (t := l) HT.out.2.1).mono ?_; rintro e w1 ⟨rfl, hb⟩; simp only [cnt_b, Cn.v_eq]; have hg1 := HT.out.1.below hb HT.out.1.lt; obtain ⟨-, c1, -, -, -, -, -, -, -, c9, c10, -⟩ := nodeV_cell hg1; rw [cnt_b] at c1; have lt := hg1.lt; have fr := hg1.frozen; simp only [RT.ptr] at c9 c10; have HB := Hd.mk hb; clear hb hg1)
      go_region_with (go_at_call 102; rw [HW.out]; refine (HI _ (ex_drew HB.out)).out.mono ?_; rintro e w2 ⟨he, ht2, ho2⟩; simp only [RT.ptr] at he; obtain rfl := he; have hg2 := (HT.out.1.below (ex_drew HB.out) HT.out.1.lt).only ho2 HN.out.2; obtain ⟨-, c1, -, -, -, -, -, -, -, c9, c10, -⟩ := nodeV_cell hg2; have lt := hg2.lt; have fr := hg2.frozen; simp only [RT.ptr] at c9 c10; have HG2 := Hd.mk hg2; have HT2 := Hd.mk ht2; have HO2 := Hd.mk ho2; clear hg2 ht2 ho2)
      all_goals go_wp2_with (go_at_call 132; refine (level_calls (g := g) (rs := rs) (l := l) (r := RT.takeT r k2) (raw_right HG2.out ((HT.out.2.1.below (ex_drew HB.out)).only HO2.out HN.out.1) HT2.out HA.out.nl HA.out.nr) HA.out).mono ?_; rintro e w3 ⟨he, ht3, ho3⟩; simp only [RT.ptr] at he; obtain rfl := he; have HT3 := Hd.mk ht3; have HO3 := Hd.mk ho3; clear ht3 ho3)
      all_goals go_ret
      all_goals rw [HE.out]
      all_goals refine ⟨rfl, HT3.out, ((only_set (((Only.of_below (ex_drew HB.out)).trans (HO2.out.mono ?_))) ?_).trans (HO3.out.mono ?_))⟩
      all_goals first
        | (simp; done)
        | (rintro k - h; simp [h]; done)
        | (rintro k - h
           simp only [RT.blocks_node, List.mem_append, List.mem_cons] at h ⊢
           rcases h with h | h | h
           · exact .inl h
           · exact .inr (.inl h)
           · exact .inr (.inr ((RT.takeT_sub _ _).subset h)))
end Go.Proofs.YtgokmldngnmmhaaDoor
/- find, edge, Counts. -/
namespace Go.Proofs.YtgokmldngnmmhaaDoor
open Go.RowKit
set_option maxRecDepth 100000
/-- A document in memory. -/
structure AtR (w : World) (p : Nat) (t : RT) : Prop where
  blk : Blk w p 169 #[t.ptr]
  tree : AtT w t
  out : p ∉ t.blocks
theorem AtR.below {w w' : World} {p : Nat} {t : RT} (h : AtR w p t) (hb : Below w.heap.size w w') : AtR w' p t := ⟨h.blk.below hb h.blk.lt, h.tree.below hb, h.out⟩
/-- A tree as the rope's functions leave it. -/
structure Good (t : RT) : Prop where
  nodup : t.blocks.Nodup
  ne : Ne t.chunks
  le : ∀ c ∈ t.chunks, bl c ≤ 32
  all : U.AllR t.runes
  bal : t.Bal
  sz : bl t.runes ≤ 8000
theorem ne_len {cs : List (List Int)} (h : Ne cs) : cs.length ≤ cs.flatten.length := by
  induction cs with
  | nil => simp
  | cons c cs ih =>
    have := ih h.tl
    have := List.length_pos_iff.2 h.hd
    simp only [List.length_cons, List.flatten_cons, List.length_append]; omega
theorem Good.sm {t : RT} (h : Good t) : Sm t.runes t.nodes.length := by
  have h1 := bl_len t.runes
  have h2 := ne_len h.ne
  have h3 := h.sz
  rw [RT.len_chunks, ← RT.runes_chunks] at h2
  exact ⟨by omega, by omega⟩
theorem Good.ap {t : RT} (h : Good t) : Ap t := ⟨h.nodup, h.sm⟩
attribute [local go_sem] Cn.v_eq field_cn cnt_b
set_option maxHeartbeats 2000000 in
theorem find_calls {p k : Nat} {t : RT} {w : World} (h : AtR w p t) (hs : bl t.runes ≤ 4398046511104) (hk : k ≤ 4398046511104) :
    Calls Tryd.prog 101 #[.pointer (some ⟨p, 0, none⟩), .int .i64 k] w fun e w' => e = .returned (.tuple #[.string ⟨(U.encs (t.findT k 0).1).toArray⟩, .int .i64 (t.findT k 0).2]) ∧ Below w.heap.size w w' := by
  have HT := Hd.mk h.tree
  have c0 := h.blk.cell 0
  have lt := h.blk.lt
  simp only [List.getElem?_toArray, List.getElem?_cons_zero] at c0
  obtain ⟨pt, hpt⟩ : ∃ x, t.pa = x := ⟨_, rfl⟩
  have HPT := Hd.mk hpt
  simp only [RT.ptr] at c0
  rw [hpt] at c0
  clear h hpt
  go_enter Tryd.func101, Tryd.ntmps101
  go_wp2_with fail
  go_loopg [6, 7] t.nodes.length (fun gk n f wr => Below w.heap.size w wr ∧ ∃ (s : RT) (fr : Nat), n = s.ptr ∧ f = .int .i64 fr ∧ AtT w s ∧ s.findT k fr = t.findT k 0 ∧ fr + bl s.runes ≤ bl t.runes ∧ s.nodes.length ≤ gk)
  case atStart => exact ⟨Below.refl _ _, t, 0, by rw [RT.ptr, HPT.out], rfl, HT.out, rfl, by omega, Nat.le_refl _⟩
  case round =>
    obtain ⟨hbw, s, fr, rfl, rfl, hat, hf, hsz, hg⟩ := hrel
    have HBW := Hd.mk hbw
    have HAT := Hd.mk hat
    have HF := Hd.mk hf
    have HG := Hd.mk hg
    clear hbw hat hf hg c0 lt
    cases s with
    | nil =>
      rw [RT.ptr_nil]
      go_wp2_with fail
      go_ret2
      rw [← HF.out]
      exact ⟨rfl, HBW.out⟩
    | node g rs l r =>
      have hb1 : bl l.runes ≤ 4398046511104 := by simp only [RT.runes_node, bl_append] at hsz; omega
      have hb2 : bl rs ≤ 4398046511104 := by simp only [RT.runes_node, bl_append] at hsz; omega
      have hf1 : fr ≤ 4398046511104 := by omega
      have HSZ := Hd.mk hsz
      clear hsz
      have hgb := HAT.out.1.below HBW.out HAT.out.1.lt
      obtain ⟨c0, c1, -, -, -, -, -, -, -, c9, c10, -⟩ := nodeV_cell hgb
      rw [cnt_b] at c1
      have lt := hgb.lt
      simp only [RT.ptr] at c9 c10
      rw [RT.ptr_node]
      clear hgb
      by_cases h1 : k < fr + bl l.runes
      · have hi : (k : Int) < (fr : Int) + (bl l.runes : Int) := by omega
        have hw : wrap64 ((fr : Int) + (bl l.runes : Int)) = (fr : Int) + (bl l.runes : Int) := by unfold wrap64; omega
        go_wp2_with (go_at_call 111; refine (all_calls (t := l) (HAT.out.2.1.below HBW.out)).mono ?_; rintro e w1 ⟨rfl, hb⟩; simp only [cnt_b, Cn.v_eq]; have hg1 := HAT.out.1.below (HBW.out.trans (hb.mono HBW.out.size)) HAT.out.1.lt; obtain ⟨c0, c1, -, -, -, -, -, -, -, c9, c10, -⟩ := nodeV_cell hg1; rw [cnt_b] at c1; have lt := hg1.lt; simp only [RT.ptr] at c9 c10; have HB := Hd.mk hb; clear hb hg1)
        go_roundg l.nodes.length
        case rel => exact ⟨HBW.out.trans (HB.out.mono HBW.out.size), l, fr, rfl, rfl, HAT.out.2.1, by rw [← HF.out]; exact (if_pos h1).symm, by have := HSZ.out; simp only [RT.runes_node, bl_append] at this; omega, Nat.le_refl _⟩
        case measure => have := HG.out; simp only [RT.nodes_node, List.length_append, List.length_cons] at this; omega
      · have hi : ¬ ((k : Int) < (fr : Int) + (bl l.runes : Int)) := by omega
        have hw : wrap64 ((fr : Int) + (bl l.runes : Int)) = (fr : Int) + (bl l.runes : Int) := by unfold wrap64; omega
        have hw2 : wrap64 ((fr : Int) + (bl l.runes : Int) + (bl rs : Int)) = (fr : Int) + (bl l.runes : Int) + (bl rs : Int) := by unfold wrap64; omega
        have hE : (RT.node g rs l r).findT k fr = if k < fr + bl l.runes + bl rs ∨ r.isNil = true then (rs, fr + bl l.runes) else r.findT k (fr + bl l.runes + bl rs) := if_neg h1
        by_cases h2 : k < fr + bl l.runes + bl rs
        · have hi2 : (k : Int) < (fr : Int) + (bl l.runes : Int) + (bl rs : Int) := by omega
          have HE : Hd (t.findT k 0 = (rs, fr + bl l.runes)) := ⟨by rw [← HF.out, hE, if_pos (.inl h2)]⟩
          clear hE
          go_wp2_with (go_at_call 111; refine (all_calls (t := l) (HAT.out.2.1.below HBW.out)).mono ?_; rintro e w1 ⟨rfl, hb⟩; simp only [cnt_b, Cn.v_eq]; have hg1 := HAT.out.1.below (HBW.out.trans (hb.mono HBW.out.size)) HAT.out.1.lt; obtain ⟨c0, c1, -, -, -, -, -, -, -, c9, c10, -⟩ := nodeV_cell hg1; rw [cnt_b] at c1; have lt := hg1.lt; simp only [RT.ptr] at c9 c10; have HB := Hd.mk hb; clear hb hg1)

          go_ret2
          rw [HE.out]
          exact ⟨by simp, HBW.out.trans (HB.out.mono HBW.out.size)⟩
        · have hi2 : ¬ ((k : Int) < (fr : Int) + (bl l.runes : Int) + (bl rs : Int)) := by omega
          cases r with
          | nil =>
            have HE : Hd (t.findT k 0 = (rs, fr + bl l.runes)) := ⟨by rw [← HF.out, hE, if_pos (.inr rfl)]⟩
            clear hE
            go_wp2_with (go_at_call 111; refine (all_calls (t := l) (HAT.out.2.1.below HBW.out)).mono ?_; rintro e w1 ⟨rfl, hb⟩; simp only [cnt_b, Cn.v_eq]; have hg1 := HAT.out.1.below (HBW.out.trans (hb.mono HBW.out.size)) HAT.out.1.lt; obtain ⟨c0, c1, -, -, -, -, -, -, -, c9, c10, -⟩ := nodeV_cell hg1; rw [cnt_b] at c1; have lt := hg1.lt; rw [RT.ptr_nil] at c10; simp only [RT.ptr] at c9; have HB := Hd.mk hb; clear hb hg1)
            go_ret2
            rw [HE.out]
            exact ⟨by simp, HBW.out.trans (HB.out.mono HBW.out.size)⟩
          | node g2 rs2 l2 r2 =>
            obtain ⟨f2, hf2⟩ : ∃ f2, f2 = fr + bl l.runes + bl rs := ⟨_, rfl⟩
            have HE : Hd ((RT.node g2 rs2 l2 r2).findT k f2 = t.findT k 0) := ⟨by rw [hf2]; rw [← HF.out, hE, if_neg (by rintro (e | e); exact h2 e; cases e)]⟩
            have HF2 : Hd (f2 = fr + bl l.runes + bl rs) := ⟨hf2⟩
            clear hE hf2
            go_wp2_with (go_at_call 111; refine (all_calls (t := l) (HAT.out.2.1.below HBW.out)).mono ?_; rintro e w1 ⟨rfl, hb⟩; simp only [cnt_b, Cn.v_eq]; have hg1 := HAT.out.1.below (HBW.out.trans (hb.mono HBW.out.size)) HAT.out.1.lt; obtain ⟨c0, c1, -, -, -, -, -, -, -, c9, c10, -⟩ := nodeV_cell hg1; rw [cnt_b] at c1; have lt := hg1.lt; rw [RT.ptr_node] at c10; simp only [RT.ptr] at c9; have HB := Hd.mk hb; clear hb hg1)
            go_roundg (RT.node g2 rs2 l2 r2).nodes.length
            case rel => exact ⟨HBW.out.trans (HB.out.mono HBW.out.size), .node g2 rs2 l2 r2, f2, rfl, by congr 1; have := HF2.out; omega, HAT.out.2.2, HE.out, by have h1 := HSZ.out; have h2 := HF2.out; simp only [RT.runes_node, bl_append] at h1 ⊢; omega, Nat.le_refl _⟩
            case measure => have := HG.out; simp only [RT.nodes_node, List.length_append, List.length_cons] at this ⊢; omega
end Go.Proofs.YtgokmldngnmmhaaDoor
/- Counts, edge. -/
namespace Go.Proofs.YtgokmldngnmmhaaDoor
open Go.RowKit
set_option maxRecDepth 100000
attribute [local go_sem] Cn.v_eq
theorem counts_calls {p : Nat} {t : RT} {w : World} (h : AtR w p t) :
    Calls Tryd.prog 61 #[.pointer (some ⟨p, 0, none⟩)] w fun e w' => e = .returned (cnt t.runes).v ∧ Below w.heap.size w w' := by
  have HT := Hd.mk h.tree
  have c0 := h.blk.cell 0
  have lt := h.blk.lt
  simp only [List.getElem?_toArray, List.getElem?_cons_zero, RT.ptr] at c0
  clear h
  go_enter Tryd.func61, Tryd.ntmps61
  go_wp2_with (go_at_call 111; refine (all_calls (t := t) (HT.out.below (ex_alloc (Below.refl _ _) _))).mono ?_; rintro e w1 ⟨rfl, hb⟩; generalize hcc : cnt t.runes = c; have HCC := Hd.mk hcc; clear hcc; have hc : CnBlk w1 w.heap.size Cn.zero := CnBlk.below (heap_alloc_new w _) hb (by simp); obtain ⟨q0, q1, q2, q3⟩ := hc.cells; have qf := hc.frozen; have ql := hc.lt; have HC := Hd.mk hc; have HB := Hd.mk hb; clear hb hc)
  refine HC.out.set4 (F := fun W => bodyPost _ _ _ Exit.ret _ W) (y := c) ?_
  intro w3 hC3 hB3 hs3 hf3
  obtain ⟨g0, g1, g2, g3⟩ := hC3.cells
  refine bodyPost_ret (v := c.v) (by simp [results, Tryd.results61, go_sem, g0, g1, g2, g3]) rfl ?_
  exact ⟨by rw [HCC.out], ((ex_alloc (Below.refl _ _) _).trans (HB.out.mono (by simp))).trans (hB3 _ (Nat.le_refl _))⟩
attribute [local go_sem] field_cn cnt_b
theorem byte_at {s : U.Bs} {j : Nat} (h : j < s.length) (hh) : (ByteArray.mk s.toArray)[j]'hh = s.getD j 0 := by
  have : (ByteArray.mk s.toArray)[j]'hh = s[j] := rfl
  rw [this]; simp [h]
/-- The chunk that a place lies in has its byte. -/
theorem redg_chunk {t : RT} {a b : List (List Int)} {c : List Int} {k j : Nat} (h : t.chunks = a ++ c :: b) (hk : k = cb a + j) (hj : j < bl c) : redg (U.encs t.runes) k = !U.cont ((U.encs c).getD j 0) := by
  have e : U.encs t.runes = U.encs a.flatten ++ (U.encs c ++ U.encs b.flatten) := by
    rw [RT.runes_chunks, h, List.flatten_append, List.flatten_cons, U.encs_append, U.encs_append]
  have la : (U.encs a.flatten).length = cb a := rfl
  have lc : (U.encs c).length = bl c := rfl
  unfold redg
  rw [e, decide_eq_false (by simp only [List.length_append, la, lc]; omega)]
  rw [List.getD_eq_getElem?_getD, List.getElem?_append_right (by omega), la, hk, Nat.add_sub_cancel_left, List.getElem?_append_left (by omega), ← List.getD_eq_getElem?_getD, Bool.false_or]
set_option maxHeartbeats 1000000 in
theorem edge_calls {p k : Nat} {t : RT} {w : World} (h : AtR w p t) (hg : Good t) (hk : k ≤ bl t.runes) :
    Calls Tryd.prog 100 #[.pointer (some ⟨p, 0, none⟩), .int .i64 k] w fun e w' => e = .returned (.bool (redg (U.encs t.runes) k)) ∧ Below w.heap.size w w' := by
  have HR := Hd.mk h
  have HG := Hd.mk hg
  have hsz := hg.sz
  by_cases he : k = bl t.runes
  · have hb : ((k : Int) == (bl t.runes : Int)) = true := by rw [he]; exact beq_self_eq_true _
    have HE : Hd (redg (U.encs t.runes) k = true) := ⟨by unfold redg; rw [decide_eq_true (by rw [he]; rfl)]; rfl⟩
    clear h hg hk he
    go_enter Tryd.func100, Tryd.ntmps100
    go_wp2_with (go_at_call 61; refine (counts_calls HR.out).mono ?_; rintro e w1 ⟨rfl, hb1⟩; simp only [Cn.v_eq, cnt_b]; have HB := Hd.mk hb1; clear hb1)
    go_ret
    rw [HE.out]
    exact ⟨rfl, HB.out⟩
  · have hb : ((k : Int) == (bl t.runes : Int)) = false := by rw [beq_eq_false_iff_ne]; omega
    have hn : t ≠ .nil := by rintro rfl; simp at he hk; exact he hk
    obtain ⟨a, c, b, h1, h2, h3, h4⟩ := RT.findT_chunks (k := k) (f := 0) hg.ne hn (Nat.zero_le _)
    rw [Nat.zero_add] at h2 h3 h4
    have hj : k < cb a + bl c := by
      rcases h4 with h4 | rfl
      · exact h4
      · have := cb_runes t
        rw [h1] at this
        simp at this
        omega
    obtain ⟨j, hj2⟩ : ∃ j, k = cb a + j := ⟨k - cb a, by omega⟩
    have hjc : j < bl c := by omega
    have HE : Hd (redg (U.encs t.runes) k = !U.cont ((U.encs c).getD j 0)) := ⟨redg_chunk h1 hj2 hjc⟩
    have hfb : cb a ≤ 8000 := by omega
    have HF := Hd.mk (fun w1 (hb : Below w.heap.size w w1) => find_calls (k := k) (h.below hb) (by omega) (by omega))
    rw [h2] at HF
    generalize hca : cb a = f at *
    subst hj2
    have hlc : j < (U.encs c).length := hjc
    have hl : (U.encs c).length = bl c := rfl
    have hlb : (U.encs c).length ≤ 8000 := by have := hg.le c (by rw [h1]; simp); omega
    have e0 := fun hh => byte_at (s := U.encs c) (j := j) hlc hh
    clear h hg hk he hn h1 h2 h3 h4 hj hca hjc hl
    by_cases hc : U.cont ((U.encs c).getD j 0) = true
    · have h1 := contT hc
      rw [hc] at HE
      clear hc
      generalize (U.encs c).getD j 0 = x at *
      have hx := x.toNat_lt
      go_enter Tryd.func100, Tryd.ntmps100
      go_wp2_with (first
        | (go_at_call 61; refine (counts_calls HR.out).mono ?_; rintro e w1 ⟨rfl, hb1⟩; simp only [Cn.v_eq, cnt_b]; have HB := Hd.mk hb1; clear hb1)
        | (go_at_call 101; refine (HF.out _ HB.out).mono ?_; rintro e w2 ⟨rfl, hb2⟩; have HB2 := Hd.mk hb2; clear hb2))
      go_ret
      rw [HE.out]
      exact ⟨rfl, HB.out.trans (HB2.out.mono HB.out.size)⟩
    · have h1 := contF hc
      rw [show U.cont ((U.encs c).getD j 0) = false by simpa using hc] at HE
      clear hc
      generalize (U.encs c).getD j 0 = x at *
      have hx := x.toNat_lt
      go_enter Tryd.func100, Tryd.ntmps100
      go_wp2_with (first
        | (go_at_call 61; refine (counts_calls HR.out).mono ?_; rintro e w1 ⟨rfl, hb1⟩; simp only [Cn.v_eq, cnt_b]; have HB := Hd.mk hb1; clear hb1)
        | (go_at_call 101; refine (HF.out _ HB.out).mono ?_; rintro e w2 ⟨rfl, hb2⟩; have HB2 := Hd.mk hb2; clear hb2))
      go_ret
      rw [HE.out]
      exact ⟨rfl, HB.out.trans (HB2.out.mono HB.out.size)⟩
end Go.Proofs.YtgokmldngnmmhaaDoor
