/- take. -/
import Derived.Test.YtgokmldngnmmhaaRopeC
import Derived.Deep.LoopGhost
import Derived.BigRegion
namespace Go.Proofs.Ytgokmldngnmmhaa
open Go.RowKit
set_option maxRecDepth 100000
theorem Ap.less {t u : RT} (h : Ap t) (hs : u.blocks.Sublist t.blocks) (hr : u.runes.length ≤ t.runes.length) : Ap u :=
  ⟨h.nodup.sublist hs, h.sm.le hr (by have := hs.length_le; rwa [RT.len_blocks, RT.len_blocks] at this)⟩
theorem runes_len (t : RT) : t.runes.length = t.chunks.flatten.length := by rw [RT.runes_chunks]
theorem take_len {t : RT} {k : Nat} (hne : Ne t.chunks) (hk : ∃ a c b, t.chunks = a ++ c :: b ∧ cb a = k) : (t.takeT k).runes.length ≤ t.runes.length := by
  obtain ⟨a, c, b, h, hk⟩ := hk
  rw [runes_len, RT.takeT_chunks hne h hk, runes_len, h]
  simp
theorem take_first_len {t : RT} (hne : Ne t.chunks) (h : t ≠ .nil) : (t.first ++ (t.takeT 0).runes).length = t.runes.length := by
  obtain ⟨b, e⟩ := RT.first_chunks h
  have := RT.takeT_chunks (a := []) (k := 0) hne e rfl
  rw [List.length_append, runes_len, this, runes_len, e]
  simp
/-- Which part the chunk lies in. -/
theorem take_split {l r : List (List Int)} {rs : List Int} {k : Nat} (hne : Ne (l ++ rs :: r)) (hk : ∃ a c b, l ++ rs :: r = a ++ c :: b ∧ cb a = k) :
    (k < cb l ∧ ∃ a c b, l = a ++ c :: b ∧ cb a = k) ∨ k = cb l ∨ (cb l + bl rs ≤ k ∧ ∃ a c b, r = a ++ c :: b ∧ cb a = k - cb l - bl rs) := by
  obtain ⟨a, c, b, h, hk⟩ := hk
  rcases split3 h with ⟨d, h1, h2⟩ | ⟨d, rfl, h2⟩
  · cases d with
    | nil => right; left; simp at h1; rw [h1, hk]
    | cons y d =>
      left
      simp only [List.cons_append, List.cons.injEq] at h2
      obtain ⟨rfl, -⟩ := h2
      have : 0 < bl c := bl_pos (hne c (by rw [h1]; simp))
      exact ⟨by rw [h1, cb_append, cb_cons]; omega, a, c, d, h1, hk⟩
  · right; right
    rw [cb_append, cb_cons] at hk
    exact ⟨by omega, d, c, b, h2, by omega⟩
def spine : RT → Nat
  | .nil => 0
  | .node _ _ l _ => 1 + spine l
theorem first_node {g : Nat} {rs : List Int} {l r : RT} (h : l ≠ .nil) : (RT.node g rs l r).first = l.first := by
  show (if l.isNil = true then rs else l.first) = _
  rw [if_neg (fun e => h (RT.isNil_iff.1 e))]
theorem node_fst {w : World} {g : Nat} {rs rs' : List Int} {all : Cn} {l r : Value} {h : Int} (hb : Blk w g 54 (nodeV rs all l r h)) :
    Blk (((((w.setCell ⟨g, 0, none⟩ (.string ⟨(U.encs rs').toArray⟩)).setCell ⟨g, 1, none⟩ (.int .i64 (cnt rs').b)).setCell ⟨g, 2, none⟩ (.int .i64 (cnt rs').h)).setCell ⟨g, 3, none⟩ (.int .i64 (cnt rs').r)).setCell ⟨g, 4, none⟩ (.int .i64 (cnt rs').l)) g 54 (nodeV rs' all l r h) :=
  ((((hb.set_ 0 _).set_ 1 _).set_ 2 _).set_ 3 _).set_ 4 _
attribute [local go_sem] Cn.v_eq field_cn
set_option maxHeartbeats 2000000 in
theorem take_calls {t : RT} {k : Nat} {w : World} (ht : AtT w t) (hne : Ne t.chunks) (hd : Ap t) (hk : ∃ a c b, t.chunks = a ++ c :: b ∧ cb a = k) :
    Calls Try.prog 24 #[t.ptr, .int .i64 k] w fun e w' => e = .returned (RT.takeT t k).ptr ∧ AtT w' (RT.takeT t k) ∧ Only (fun b => b ∈ t.blocks) w w' := by
  induction t generalizing k w with
  | nil => obtain ⟨a, c, b, h, -⟩ := hk; simp at h
  | node g rs l r ihl ihr =>
    obtain ⟨-, c1, -, -, -, -, -, -, -, c9, c10, -⟩ := nodeV_cell ht.1
    have lt := ht.1.lt
    have fr := ht.1.frozen
    have HT := Hd.mk ht
    have HD := Hd.mk hd
    simp only [RT.chunks_node] at hne hk
    have hsm := bl_pos hne.r.hd
    have hlen := hd.sm.len
    have hb1 : bl l.runes ≤ 4398046511104 := by have := cnt_b l.runes; obtain ⟨⟨b0, b1, -⟩, -, -⟩ := cnt_in l.runes; simp only [RT.runes_node, List.length_append] at hlen; omega
    have hb2 : bl rs ≤ 4398046511104 := by have := cnt_b rs; obtain ⟨⟨b0, b1, -⟩, -, -⟩ := cnt_in rs; simp only [RT.runes_node, List.length_append] at hlen; omega
    have hb3 : bl r.runes ≤ 4398046511104 := by have := cnt_b r.runes; obtain ⟨⟨b0, b1, -⟩, -, -⟩ := cnt_in r.runes; simp only [RT.runes_node, List.length_append] at hlen; omega
    rw [RT.ptr_node]
    rw [cnt_b] at c1
    have hcase := take_split hne hk
    rw [cb_runes] at hcase
    rcases hcase with ⟨h, hkl⟩ | h | ⟨h, hkr⟩
    · have hi : (k : Int) < (bl l.runes : Int) := by omega
      have HE : Hd (RT.takeT (.node g rs l r) k = RT.lvl g rs (RT.takeT l k) r) := ⟨by show (if _ then _ else _) = _; rw [if_pos h]⟩
      have HA : Hd (Ap (.node g rs (RT.takeT l k) r)) := ⟨hd.less (by rw [RT.blocks_node, RT.blocks_node]; exact (RT.takeT_sub l k).append_right _) (by have := take_len hne.l hkl; simp only [RT.runes_node, List.length_append]; omega)⟩
      have HI := fun w1 (hb : Below w.heap.size w w1) => Hd.mk (ihl (k := k) (w := w1) (ht.2.1.below hb) hne.l hd.onL hkl)
      have HN : Hd ((∀ b ∈ r.blocks, ¬ b ∈ l.blocks) ∧ ¬ g ∈ l.blocks) := ⟨⟨fun b hb e => hd.lr b e hb, hd.nl⟩⟩
      clear h hk hkl hd hne ihl ihr ht hlen hsm
      simp only [RT.ptr] at c9 c10 ⊢
      go_enter Try.func24, Try.ntmps24
      go_wp2_with (first
        | (go_at_call 16; refine (all_calls (t := l) HT.out.2.1).mono ?_; rintro e w1 ⟨rfl, hb⟩; simp only [cnt_b, Cn.v_eq]; have hg1 := HT.out.1.below hb HT.out.1.lt; obtain ⟨-, c1, -, -, -, -, -, -, -, c9, c10, -⟩ := nodeV_cell hg1; rw [cnt_b] at c1; have lt := hg1.lt; have fr := hg1.frozen; simp only [RT.ptr] at c9 c10; have HB := Hd.mk hb; clear hb hg1)
        | (go_at_call 24; refine (HI _ (HB.out)).out.mono ?_; rintro e w2 ⟨he, ht2, ho2⟩; simp only [RT.ptr] at he; obtain rfl := he; have hg2 := (HT.out.1.below (HB.out) HT.out.1.lt).only ho2 HN.out.2; obtain ⟨-, c1, -, -, -, -, -, -, -, c9, c10, -⟩ := nodeV_cell hg2; have lt := hg2.lt; have fr := hg2.frozen; simp only [RT.ptr] at c9 c10; have HG2 := Hd.mk hg2; have HT2 := Hd.mk ht2; have HO2 := Hd.mk ho2; clear hg2 ht2 ho2)
        | (go_at_call 34; refine (level_calls (g := g) (rs := rs) (l := RT.takeT l k) (r := r) (raw_left HG2.out HT2.out ((HT.out.2.2.below HB.out).only HO2.out HN.out.1) HA.out.nl HA.out.nr) HA.out).mono ?_; rintro e w3 ⟨he, ht3, ho3⟩; simp only [RT.ptr] at he; obtain rfl := he; have HT3 := Hd.mk ht3; have HO3 := Hd.mk ho3; clear ht3 ho3))
      go_ret
      rw [HE.out]
      refine ⟨rfl, HT3.out, ((only_set (((Only.of_below HB.out).trans (HO2.out.mono ?_))) ?_).trans (HO3.out.mono ?_))⟩
      · rintro k - h; simp [h]
      · simp
      · rintro k - h
        simp only [RT.blocks_node, List.mem_append, List.mem_cons] at h ⊢
        rcases h with h | h | h
        · exact .inl ((RT.takeT_sub _ _).subset h)
        · exact .inr (.inl h)
        · exact .inr (.inr h)
    · have hi : ¬ ((k : Int) < (bl l.runes : Int)) := by omega
      have hi2 : ¬ ((bl l.runes : Int) < (k : Int)) := by omega
      have hE0 : RT.takeT (.node g rs l r) k = if l.isNil then r else if r.isNil then l else RT.lvl g r.first l (RT.takeT r 0) := by show (if _ then _ else _) = _; rw [if_neg (by omega), if_neg (by omega)]
      by_cases hl : l = .nil
      · subst hl
        have HE : Hd (RT.takeT (.node g rs .nil r) k = r) := ⟨by rw [hE0]; rfl⟩
        obtain rfl : k = 0 := h
        obtain ⟨pr, hpr⟩ : ∃ p, r.pa = p := ⟨_, rfl⟩
        have HPR := Hd.mk hpr
        clear hk hd hne ihl ihr ht hlen hsm hE0 hi hi2 hb1 hpr
        rw [RT.ptr_nil] at c9
        simp only [RT.ptr] at c10 ⊢
        rw [HPR.out] at c10
        go_enter Try.func24, Try.ntmps24
        go_wp2_with (go_at_call 16;  refine (all_calls (t := .nil) HT.out.2.1).mono ?_; rintro e w1 ⟨rfl, hb⟩; simp only [cnt_b, Cn.v_eq, RT.runes_nil, bl_nil]; have hg1 := HT.out.1.below hb HT.out.1.lt; obtain ⟨-, c1, -, -, -, -, -, -, -, c9, c10, -⟩ := nodeV_cell hg1; rw [cnt_b] at c1; have lt := hg1.lt; have fr := hg1.frozen; rw [RT.ptr_nil] at c9; simp only [RT.ptr] at c10; rw [HPR.out] at c10; have HB := Hd.mk hb; clear hb hg1)
        go_ret
        rw [HE.out]
        exact ⟨by rw [HPR.out]; rfl, HT.out.2.2.below HB.out, Only.of_below HB.out⟩
      · by_cases hr : r = .nil
        · subst hr
          have HE : Hd (RT.takeT (.node g rs l .nil) k = l) := ⟨by rw [hE0, if_neg (fun e => hl (RT.isNil_iff.1 e))]; rfl⟩
          cases l with
          | nil => exact absurd rfl hl
          | node gl rl ll lr =>
            have HB0 : Hd (bl (RT.node gl rl ll lr).runes = k) := ⟨h.symm⟩
            rw [HB0.out] at hi hi2 hb1
            clear h hk hd hne ihl ihr ht hlen hsm hE0 hl
            rw [RT.ptr_nil] at c10
            rw [RT.ptr_node] at c9
            simp only [RT.ptr] at ⊢
            go_enter Try.func24, Try.ntmps24
            go_wp2_with (go_at_call 16;  refine (all_calls (t := .node gl rl ll lr) HT.out.2.1).mono ?_; rintro e w1 ⟨rfl, hb⟩; simp only [cnt_b, Cn.v_eq]; have hg1 := HT.out.1.below hb HT.out.1.lt; obtain ⟨-, c1, -, -, -, -, -, -, -, c9, c10, -⟩ := nodeV_cell hg1; rw [cnt_b] at c1; have lt := hg1.lt; have fr := hg1.frozen; rw [RT.ptr_node] at c9; rw [RT.ptr_nil] at c10; rw [HB0.out]; have HB := Hd.mk hb; clear hb hg1)
            go_ret
            rw [HE.out]
            exact ⟨rfl, HT.out.2.1.below HB.out, Only.of_below HB.out⟩
        · have HE : Hd (RT.takeT (.node g rs l r) k = RT.lvl g r.first l (RT.takeT r 0)) := ⟨by rw [hE0, if_neg (fun e => hl (RT.isNil_iff.1 e)), if_neg (fun e => hr (RT.isNil_iff.1 e))]⟩
          obtain ⟨b, hfc⟩ := RT.first_chunks hr
          have HA : Hd (Ap (.node g r.first l (RT.takeT r 0))) := ⟨hd.less (by rw [RT.blocks_node, RT.blocks_node]; exact ((RT.takeT_sub r 0).cons_cons _).append_left _) (by have := take_first_len hne.r.tl hr; simp only [RT.runes_node, List.length_append] at this ⊢; omega)⟩
          have HI := fun w1 (hr : AtT w1 r) => Hd.mk (ihr (k := 0) (w := w1) hr hne.r.tl hd.onR ⟨[], _, _, hfc, rfl⟩)
          have HN : Hd ((∀ b ∈ l.blocks, ¬ b ∈ r.blocks) ∧ ¬ g ∈ r.blocks ∧ ¬ g ∈ l.blocks) := ⟨⟨fun b hb e => hd.lr b hb e, hd.nr, hd.nl⟩⟩
          have HR : Hd (r ≠ .nil) := ⟨hr⟩
          obtain ⟨al, hpl⟩ : ∃ al, l.pa = some al := by cases l with
            | nil => exact absurd rfl hl
            | node => exact ⟨_, rfl⟩
          obtain ⟨ar, hpr⟩ : ∃ al, r.pa = some al := by cases r with
            | nil => exact absurd rfl hr
            | node => exact ⟨_, rfl⟩
          have HPL := Hd.mk hpl
          have HPR := Hd.mk hpr
          clear h hk hd hne ihl ihr ht hlen hsm hE0 hl hr hfc b hpl hpr
          simp only [RT.ptr] at c9 c10 ⊢
          rw [HPL.out] at c9
          rw [HPR.out] at c10
          go_enter Try.func24, Try.ntmps24
          go_wp2_with (go_at_call 16; rw [← HPL.out]; refine (all_calls (t := l) HT.out.2.1).mono ?_; rintro e w1 ⟨rfl, hb⟩; simp only [cnt_b, Cn.v_eq]; have hg1 := HT.out.1.below hb HT.out.1.lt; obtain ⟨c0, c1, c2, c3, c4, -, -, -, -, c9, c10, -⟩ := nodeV_cell hg1; rw [cnt_b] at c1; have lt := hg1.lt; have fr := hg1.frozen; simp only [RT.ptr] at c9 c10; rw [HPL.out] at c9; rw [HPR.out] at c10; have HB := Hd.mk hb; clear hb hg1)
          go_loopg [6] (spine r) (fun gk f wr => wr = w1 ∧ ∃ t : RT, f = t.ptr ∧ t ≠ .nil ∧ AtT w1 t ∧ t.first = r.first ∧ spine t = gk)
          case atStart => exact ⟨rfl, r, by rw [RT.ptr, HPR.out], HR.out, HT.out.2.2.below HB.out, rfl, rfl⟩
          case round =>
            obtain ⟨hw, t, rfl, hn, hat, hf, hg⟩ := hrel
            rw [hw]
            have HTT := Hd.mk hat
            have HFF := Hd.mk hf
            have HGG := Hd.mk hg
            cases t with
            | nil => exact absurd rfl hn
            | node g2 rs2 l2 r2 =>
              obtain ⟨d0, d1, d2, d3, d4, -, -, -, -, d9, -, -⟩ := nodeV_cell HTT.out.1
              have lt2 := HTT.out.1.lt
              clear hw hn hat hf hg
              rw [RT.ptr_node]
              cases l2 with
              | nil =>
                rw [RT.ptr_nil] at d9
                go_wp2_with fail
                go_region
                obtain rfl : rs2 = r.first := HFF.out
                have hss := node_fst (rs' := r.first) (HT.out.1.below HB.out HT.out.1.lt)
                have hoo : Only (fun b => b = g) w1 (((((w1.setCell ⟨g, 0, none⟩ (.string ⟨(U.encs r.first).toArray⟩)).setCell ⟨g, 1, none⟩ (.int .i64 (cnt r.first).b)).setCell ⟨g, 2, none⟩ (.int .i64 (cnt r.first).h)).setCell ⟨g, 3, none⟩ (.int .i64 (cnt r.first).r)).setCell ⟨g, 4, none⟩ (.int .i64 (cnt r.first).l)).drew :=
                  (only_set (only_set (only_set (only_set (only_set (Only.refl (fun b => b = g) w1) rfl) rfl) rfl) rfl) rfl).drew
                generalize (((((w1.setCell ⟨g, 0, none⟩ (.string ⟨(U.encs r.first).toArray⟩)).setCell ⟨g, 1, none⟩ (.int .i64 (cnt r.first).b)).setCell ⟨g, 2, none⟩ (.int .i64 (cnt r.first).h)).setCell ⟨g, 3, none⟩ (.int .i64 (cnt r.first).r)).setCell ⟨g, 4, none⟩ (.int .i64 (cnt r.first).l)) = wf at hss hoo ⊢
                replace hss : Blk wf.drew g _ _ := hss
                generalize wf.drew = wg at hss hoo ⊢
                clear wf
                have HRR := Hd.mk ((HT.out.2.2.below HB.out).only hoo (fun b hb e => HN.out.2.1 (e ▸ hb)))
                have HLL := Hd.mk ((HT.out.2.1.below HB.out).only hoo (fun b hb e => HN.out.2.2 (e ▸ hb)))
                clear c0 c1 c2 c3 c4 c9 c10 lt fr d0 d1 d2 d3 d4 d9 lt2
                obtain ⟨-, -, -, -, -, -, -, -, -, c9, c10, -⟩ := nodeV_cell hss
                have lt := hss.lt
                have fr := hss.frozen
                simp only [RT.ptr] at c9 c10
                rw [HPR.out] at c10
                have HSS := Hd.mk hss
                have HOO := Hd.mk hoo
                clear hss hoo
                go_wp2_with (first
                  | (go_at_call 24; rw [← HPR.out]; refine (HI _ HRR.out).out.mono ?_; rintro e w2 ⟨he, ht2, ho2⟩; simp only [RT.ptr] at he; obtain rfl := he; have hg2 := HSS.out.only ho2 HN.out.2.1; obtain ⟨-, c1, -, -, -, -, -, -, -, c9, c10, -⟩ := nodeV_cell hg2; have lt := hg2.lt; have fr := hg2.frozen; simp only [RT.ptr] at c9 c10; have HG2 := Hd.mk hg2; have HT2 := Hd.mk ht2; have HO2 := Hd.mk ho2; clear hg2 ht2 ho2)
                  | (go_at_call 34; refine (level_calls (g := g) (rs := r.first) (l := l) (r := RT.takeT r 0) (raw_right HG2.out (HLL.out.only HO2.out HN.out.1) HT2.out HA.out.nl HA.out.nr) HA.out).mono ?_; rintro e w3 ⟨he, ht3, ho3⟩; simp only [RT.ptr] at he; obtain rfl := he; have HT3 := Hd.mk ht3; have HO3 := Hd.mk ho3; clear ht3 ho3))
                go_ret
                rw [HE.out]
                refine ⟨rfl, HT3.out, ((only_set ((((Only.of_below HB.out).trans (HOO.out.mono ?_))).trans (HO2.out.mono ?_)) ?_).trans (HO3.out.mono ?_))⟩
                · rintro k - rfl; simp
                · rintro k - h; simp [h]
                · simp
                · rintro k - h
                  simp only [RT.blocks_node, List.mem_append, List.mem_cons] at h ⊢
                  rcases h with h | h | h
                  · exact .inl h
                  · exact .inr (.inl h)
                  · exact .inr (.inr ((RT.takeT_sub _ _).subset h))
              | node g3 rs3 l3 r3 =>
                rw [RT.ptr_node] at d9
                go_wp2_with fail
                go_roundg (spine (.node g3 rs3 l3 r3))
                case rel => exact ⟨rfl, .node g3 rs3 l3 r3, rfl, (by intro e; cases e), HTT.out.2.1, (first_node (g := g2) (rs := rs2) (r := r2) (by intro e; cases e)).symm.trans HFF.out, rfl⟩
                case measure => rw [← HGG.out]; simp only [spine]; omega
    · have hi : ¬ ((k : Int) < (bl l.runes : Int)) := by omega
      have hi2 : (bl l.runes : Int) < (k : Int) := by omega
      obtain ⟨k2, hk2⟩ : ∃ k2, k2 = k - bl l.runes - bl rs := ⟨_, rfl⟩
      have HE : Hd (RT.takeT (.node g rs l r) k = RT.lvl g rs l (RT.takeT r k2)) := ⟨by show (if _ then _ else _) = _; rw [if_neg (by omega), if_pos (by omega), hk2]⟩
      have hkr2 : ∃ a c b, r.chunks = a ++ c :: b ∧ cb a = k2 := by rw [hk2]; exact hkr
      have hkb : k2 ≤ bl r.runes := by obtain ⟨a, c, b, e, e2⟩ := hkr2; rw [← cb_runes, e, cb_append]; omega
      have HA : Hd (Ap (.node g rs l (RT.takeT r k2))) := ⟨hd.less (by rw [RT.blocks_node, RT.blocks_node]; exact ((RT.takeT_sub r k2).cons_cons _).append_left _) (by have := take_len hne.r.tl hkr2; simp only [RT.runes_node, List.length_append]; omega)⟩
      have HI := fun w1 (hb : Below w.heap.size w w1) => Hd.mk (ihr (k := k2) (w := w1) (ht.2.2.below hb) hne.r.tl hd.onR hkr2)
      have HN : Hd ((∀ b ∈ l.blocks, ¬ b ∈ r.blocks) ∧ ¬ g ∈ r.blocks) := ⟨⟨fun b hb e => hd.lr b hb e, hd.nr⟩⟩
      have HW : Hd (IntKind.i64.wrap (IntKind.i64.wrap ((k : Int) - (bl l.runes : Int)) - (bl rs : Int)) = (k2 : Int)) := ⟨by rw [IntKind.wrap_i64 (n := (k : Int) - (bl l.runes : Int)), IntKind.wrap_i64] <;> omega⟩
      clear h hk hkr hkr2 hk2 hkb hd hne ihl ihr ht hlen hsm hb3
      simp only [RT.ptr] at c9 c10 ⊢
      go_enter Try.func24, Try.ntmps24
      go_wp2_with (go_at_call 16; refine (all_calls (t := l) HT.out.2.1).mono ?_; rintro e w1 ⟨rfl, hb⟩; simp only [cnt_b, Cn.v_eq]; have hg1 := HT.out.1.below hb HT.out.1.lt; obtain ⟨-, c1, -, -, -, -, -, -, -, c9, c10, -⟩ := nodeV_cell hg1; rw [cnt_b] at c1; have lt := hg1.lt; have fr := hg1.frozen; simp only [RT.ptr] at c9 c10; have HB := Hd.mk hb; clear hb hg1)
      go_region_with (go_at_call 24; rw [HW.out]; refine (HI _ (ex_drew HB.out)).out.mono ?_; rintro e w2 ⟨he, ht2, ho2⟩; simp only [RT.ptr] at he; obtain rfl := he; have hg2 := (HT.out.1.below (ex_drew HB.out) HT.out.1.lt).only ho2 HN.out.2; obtain ⟨-, c1, -, -, -, -, -, -, -, c9, c10, -⟩ := nodeV_cell hg2; have lt := hg2.lt; have fr := hg2.frozen; simp only [RT.ptr] at c9 c10; have HG2 := Hd.mk hg2; have HT2 := Hd.mk ht2; have HO2 := Hd.mk ho2; clear hg2 ht2 ho2)
      all_goals go_wp2_with (go_at_call 34; refine (level_calls (g := g) (rs := rs) (l := l) (r := RT.takeT r k2) (raw_right HG2.out ((HT.out.2.1.below (ex_drew HB.out)).only HO2.out HN.out.1) HT2.out HA.out.nl HA.out.nr) HA.out).mono ?_; rintro e w3 ⟨he, ht3, ho3⟩; simp only [RT.ptr] at he; obtain rfl := he; have HT3 := Hd.mk ht3; have HO3 := Hd.mk ho3; clear ht3 ho3)
      all_goals go_ret
      all_goals rw [HE.out]
      all_goals refine ⟨rfl, HT3.out, ((only_set (((Only.of_below (ex_drew HB.out)).trans (HO2.out.mono ?_))) ?_).trans (HO3.out.mono ?_))⟩
      all_goals first
        | (simp; done)
        | (rintro k - h; simp [h]; done)
        | (rintro k - h
           simp only [RT.blocks_node, List.mem_append, List.mem_cons] at h ⊢
           rcases h with h | h | h
           · exact .inl h
           · exact .inr (.inl h)
           · exact .inr (.inr ((RT.takeT_sub _ _).subset h)))
end Go.Proofs.Ytgokmldngnmmhaa
