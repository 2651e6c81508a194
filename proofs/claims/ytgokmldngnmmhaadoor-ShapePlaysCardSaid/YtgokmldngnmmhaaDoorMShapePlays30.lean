/- leaf, add. -/
import Derived.Test.YtgokmldngnmmhaaDoorMShapePlays25
import Derived.BigQuiet
import Derived.Deep.QuietTactic
import Derived.Deep.DrawnRows
import Derived.Deep.RegionWith
namespace Go.Proofs.YtgokmldngnmmhaaDoor
open Go.RowKit
set_option maxRecDepth 100000
/-- Nodes whose blocks lie apart, and which are not too many. -/
structure ApN (ns : List (Nat × List Int)) : Prop where
  nodup : (ns.map Prod.fst).Nodup
  sm : Sm (ns.flatMap Prod.snd) ns.length
theorem flat_perm {a b : List (Nat × List Int)} (h : a.Perm b) : (a.flatMap Prod.snd).length = (b.flatMap Prod.snd).length := (h.flatMap_right Prod.snd).length_eq
theorem ApN.perm {a b : List (Nat × List Int)} (h : ApN a) (p : a.Perm b) : ApN b :=
  ⟨(p.map Prod.fst).nodup_iff.1 h.nodup, h.sm.le (Nat.le_of_eq (flat_perm p).symm) (Nat.le_of_eq p.length_eq.symm)⟩
theorem ApN.ap {t : RT} (h : ApN t.nodes) : Ap t := ⟨h.nodup, by rw [RT.runes_nodes]; exact h.sm⟩
theorem Ap.apn {t : RT} (h : Ap t) : ApN t.nodes := ⟨h.nodup, by rw [← RT.runes_nodes]; exact h.sm⟩
theorem ApN.left {a b : List (Nat × List Int)} (h : ApN (a ++ b)) : ApN a := by
  obtain ⟨h1, h2⟩ := h
  rw [List.map_append] at h1
  exact ⟨(List.nodup_append.1 h1).1, h2.le (by simp) (by simp)⟩
theorem ApN.right {a b : List (Nat × List Int)} (h : ApN (a ++ b)) : ApN b := by
  obtain ⟨h1, h2⟩ := h
  rw [List.map_append] at h1
  exact ⟨(List.nodup_append.1 h1).2.1, h2.le (by simp) (by simp)⟩
theorem ApN.apart {a b : List (Nat × List Int)} (h : ApN (a ++ b)) : ∀ k, k ∈ a.map Prod.fst → k ∉ b.map Prod.fst := fun k hk hk' => by
  have := h.nodup
  rw [List.map_append] at this
  exact (List.nodup_append.1 this).2.2 k hk k hk' rfl
set_option maxHeartbeats 1000000 in
theorem leaf_calls {rs : List Int} (hr : U.AllR rs) (hs : bl rs ≤ 1099511627776) (w : World) :
    Calls Tryd.prog 131 #[.string ⟨(U.encs rs).toArray⟩] w fun e w' => ∃ g, e = .returned (RT.node g rs .nil .nil).ptr ∧ w.heap.size ≤ g ∧ AtT w' (.node g rs .nil .nil) ∧ Below w.heap.size w w' := by
  have HC := Hd.mk (count_calls (U.sp_encs hr) w (by unfold bl at hs; omega))
  have HS : Hd (Sm ([] ++ rs ++ []) (0 + 0)) := ⟨⟨by have := bl_len rs; simp; omega, by omega⟩⟩
  clear hr hs
  go_enter Tryd.func131, Tryd.ntmps131
  go_wp2_with (first
    | (go_at_call 17; refine HC.out.mono ?_; rintro e w1 ⟨hb, he, -⟩; obtain rfl := he rfl; have HB := Hd.mk hb; clear hb he)
    | (go_at_call 141; refine (fit_calls (g := w1.heap.size + 1) (rs := rs) (l := .nil) (r := .nil) ⟨⟨Cn.zero, 0, by have := Blk.new (w1.alloc (.cells #[Value.int .i64 (cnt rs).b, .int .i64 (cnt rs).h, .int .i64 (cnt rs).r, .int .i64 (cnt rs).l] 36)) 177 (nodeV rs Cn.zero (RT.ptr .nil) (RT.ptr .nil) 0); rw [World.size_alloc] at this; exact this⟩, trivial, trivial⟩ (by simp) (by simp) HS.out).mono ?_; rintro e w2 ⟨rfl, ht, ho⟩; have HT := Hd.mk ht; have HO := Hd.mk ho; clear ht ho))
  go_ret
  refine ⟨w1.heap.size + 1, rfl, by have := HB.out.size; omega, HT.out, ?_⟩
  refine (Only.trans (S := fun k => k = w1.heap.size + 1) ?_ HO.out).below (Nat.le_refl _) (fun k hk e => ?_)
  · exact Only.of_below (((HB.out.alloc HB.out.size _)).alloc (by simp; have := HB.out.size; omega) _)
  · have := HB.out.size
    omega
/-- What is put, and where it goes: the blocks of both. -/
def addS (t x : RT) (k : Nat) : Prop := k ∈ t.blocks ∨ k ∈ x.blocks
theorem addT_mem {x t : RT} {k b : Nat} (h : b ∈ (RT.addT x t k).blocks) : addS t x b := by
  unfold addS
  induction t generalizing k with
  | nil => exact .inr h
  | node g rs l r ihl ihr =>
    unfold RT.addT at h
    split at h
    · simp only [RT.blocks_lvl, RT.blocks_node, List.mem_append, List.mem_cons] at h ⊢
      rcases h with h | h | h
      · rcases ihl h with h | h
        · exact .inl (.inl h)
        · exact .inr h
      · exact .inl (.inr (.inl h))
      · exact .inl (.inr (.inr h))
    · simp only [RT.blocks_lvl, RT.blocks_node, List.mem_append, List.mem_cons] at h ⊢
      rcases h with h | h | h
      · exact .inl (.inl h)
      · exact .inl (.inr (.inl h))
      · rcases ihr h with h | h
        · exact .inl (.inr (.inr h))
        · exact .inr h
theorem perm_mid {α : Type} (a x c m : List α) : (a ++ x ++ c ++ m).Perm (a ++ c ++ m ++ x) := by
  have := (List.perm_append_comm (l₁ := x) (l₂ := c ++ m)).append_left a
  simpa only [List.append_assoc] using this
theorem field_cn (b h r l : Int) (w : World) : (Instr.field 36 (.agg #[.int .i64 b, .int .i64 h, .int .i64 r, .int .i64 l]) 0).run Tryd.prog w = .ok (.int .i64 b) w := by kernel_rfl
theorem field_cn1 (b h r l : Int) (w : World) : (Instr.field 36 (.agg #[.int .i64 b, .int .i64 h, .int .i64 r, .int .i64 l]) 1).run Tryd.prog w = .ok (.int .i64 h) w := by kernel_rfl
theorem field_cn2 (b h r l : Int) (w : World) : (Instr.field 36 (.agg #[.int .i64 b, .int .i64 h, .int .i64 r, .int .i64 l]) 2).run Tryd.prog w = .ok (.int .i64 r) w := by kernel_rfl
theorem field_cn3 (b h r l : Int) (w : World) : (Instr.field 36 (.agg #[.int .i64 b, .int .i64 h, .int .i64 r, .int .i64 l]) 3).run Tryd.prog w = .ok (.int .i64 l) w := by kernel_rfl
attribute [local go_sem] Cn.v_eq cnt_b field_cn
set_option maxHeartbeats 1000000 in
theorem add_calls {x t : RT} {k : Nat} {w : World} (hx : AtT w x) (ht : AtT w t) (hne : Ne t.chunks) (hd : ApN (t.nodes ++ x.nodes)) (hk : ∃ a b, t.nodes = a ++ b ∧ bl (a.flatMap Prod.snd) = k) :
    Calls Tryd.prog 130 #[t.ptr, .int .i64 k, x.ptr] w fun e w' => e = .returned (RT.addT x t k).ptr ∧ AtT w' (RT.addT x t k) ∧ Only (addS t x) w w' := by
  induction t generalizing k w with
  | nil =>
    rw [RT.ptr_nil]
    show Calls _ _ _ _ fun e w' => e = .returned x.ptr ∧ AtT w' x ∧ _
    unfold RT.ptr
    have HX := Hd.mk hx
    clear hx
    go_enter Tryd.func130, Tryd.ntmps130
    go_wp2_with fail
    go_ret
    exact ⟨rfl, HX.out, Only.refl _ _⟩
  | node g rs l r ihl ihr =>
    obtain ⟨-, c1, -, -, -, -, -, -, -, c9, c10, -⟩ := nodeV_cell ht.1
    have lt := ht.1.lt
    have fr := ht.1.frozen
    have HT := Hd.mk ht
    have HX := Hd.mk hx
    have HA0 : Ap (.node g rs l r) := hd.left.ap
    have hlx : ApN (l.nodes ++ x.nodes) := (hd.perm (by have := (perm_mid l.nodes x.nodes [] ((g, rs) :: r.nodes)).symm; simpa using this) : ApN ((l.nodes ++ x.nodes) ++ (g, rs) :: r.nodes)).left
    have hrx : ApN (r.nodes ++ x.nodes) := by
      have : (RT.node g rs l r).nodes ++ x.nodes = (l.nodes ++ [(g, rs)]) ++ (r.nodes ++ x.nodes) := by simp
      rw [this] at hd; exact hd.right
    have hgx : g ∉ x.blocks := hd.apart g (by simp)
    have hlb : ∀ b ∈ l.blocks, b ∉ x.blocks := fun b hb => hd.apart b (by have : b ∈ (RT.node g rs l r).blocks := by simp [hb]
                                                                          exact this)
    have hrb : ∀ b ∈ r.blocks, b ∉ x.blocks := fun b hb => hd.apart b (by have : b ∈ (RT.node g rs l r).blocks := by simp [hb]
                                                                          exact this)
    simp only [RT.chunks_node] at hne
    obtain ⟨a, b, hab, hk⟩ := hk
    simp only [RT.nodes_node] at hab
    have hsm := bl_pos hne.r.hd
    have hlen := HA0.sm.len
    have hb1 : bl l.runes ≤ 4398046511104 := by have := (cnt_in l.runes).1; have := cnt_b l.runes; obtain ⟨⟨b0, b1, -⟩, -, -⟩ := cnt_in l.runes; simp only [RT.runes_node, List.length_append] at hlen; omega
    have hb2 : bl rs ≤ 4398046511104 := by have := cnt_b rs; obtain ⟨⟨b0, b1, -⟩, -, -⟩ := cnt_in rs; simp only [RT.runes_node, List.length_append] at hlen; omega
    rw [RT.ptr_node]
    rw [cnt_b] at c1
    by_cases h : k ≤ bl l.runes
    · have hi : (k : Int) ≤ (bl l.runes : Int) := by omega
      have HE : Hd (RT.addT x (.node g rs l r) k = RT.lvl g rs (RT.addT x l k) r) := ⟨by show (if _ then _ else _) = _; rw [if_pos h]⟩
      have hcut : ∃ c, l.nodes = a ++ c := by
        rcases split3 hab with ⟨c, h1, -⟩ | ⟨c, rfl, -⟩
        · exact ⟨c, h1⟩
        · exfalso
          rw [List.flatMap_append, bl_append, ← RT.runes_nodes, List.flatMap_cons, bl_append] at hk
          dsimp only at hk
          omega
      obtain ⟨c, hc⟩ := hcut
      have hnn := RT.addT_nodes (x := x) hne.l hc hk
      have HA : Hd (Ap (.node g rs (RT.addT x l k) r)) := ⟨ApN.ap (hd.perm (by
        rw [RT.nodes_node, RT.nodes_node, hnn, hc]
        exact (perm_mid a x.nodes c ((g, rs) :: r.nodes)).symm))⟩
      have HI := fun w1 (hb : Below w.heap.size w w1) => Hd.mk (ihl (k := k) (w := w1) (hx.below hb) (ht.2.1.below hb) hne.l hlx ⟨a, c, hc, hk⟩)
      have HN : Hd ((∀ b ∈ r.blocks, ¬ addS l x b) ∧ ¬ addS l x g) := ⟨⟨fun b hb e => e.elim (fun e => HA0.lr b e hb) (hrb b hb), fun e => e.elim HA0.nl hgx⟩⟩
      clear h hc hk hab hnn hd hne ihl ihr hx ht hlx hrx hgx hlb hrb HA0 hlen hsm
      simp only [RT.ptr] at c9 c10 ⊢
      go_enter Tryd.func130, Tryd.ntmps130
      go_wp2_with (first
        | (go_at_call 111; refine (all_calls (t := l) HT.out.2.1).mono ?_; rintro e w1 ⟨rfl, hb⟩; have hg1 := HT.out.1.below hb HT.out.1.lt; obtain ⟨-, c1, -, -, -, -, -, -, -, c9, c10, -⟩ := nodeV_cell hg1; rw [cnt_b] at c1; have lt := hg1.lt; have fr := hg1.frozen; simp only [RT.ptr] at c9 c10; have HB := Hd.mk hb; clear hb hg1)
        | (go_at_call 130; refine (HI _ HB.out).out.mono ?_; rintro e w2 ⟨he, ht2, ho2⟩; simp only [RT.ptr] at he; obtain rfl := he; have hg2 := (HT.out.1.below HB.out HT.out.1.lt).only ho2 HN.out.2; obtain ⟨-, c1, -, -, -, -, -, -, -, c9, c10, -⟩ := nodeV_cell hg2; have lt := hg2.lt; have fr := hg2.frozen; simp only [RT.ptr] at c9 c10; have HG2 := Hd.mk hg2; have HT2 := Hd.mk ht2; have HO2 := Hd.mk ho2; clear hg2 ht2 ho2)
        | (go_at_call 132; refine (level_calls (g := g) (rs := rs) (l := RT.addT x l k) (r := r) (raw_left HG2.out HT2.out ((HT.out.2.2.below HB.out).only HO2.out HN.out.1) HA.out.nl HA.out.nr) HA.out).mono ?_; rintro e w3 ⟨he, ht3, ho3⟩; simp only [RT.ptr] at he; obtain rfl := he; have HT3 := Hd.mk ht3; have HO3 := Hd.mk ho3; clear ht3 ho3))
      go_ret
      rw [HE.out]
      refine ⟨rfl, HT3.out, ((only_set (((Only.of_below HB.out).trans (HO2.out.mono ?_))) ?_).trans (HO3.out.mono ?_))⟩
      · rintro k - h; exact h.elim (fun h => .inl (by simp [h])) .inr
      · exact .inl (by simp)
      · rintro k - h
        simp only [RT.blocks_node, List.mem_append, List.mem_cons] at h
        rcases h with h | h | h
        · exact (addT_mem h).elim (fun h => .inl (by simp [h])) .inr
        · exact .inl (by simp [h])
        · exact .inl (by simp [h])
    · have hi : ¬ ((k : Int) ≤ (bl l.runes : Int)) := by omega
      have HE : Hd (RT.addT x (.node g rs l r) k = RT.lvl g rs l (RT.addT x r (k - bl l.runes - bl rs))) := ⟨by show (if _ then _ else _) = _; rw [if_neg h]⟩
      have hcut : ∃ c, a = l.nodes ++ (g, rs) :: c ∧ r.nodes = c ++ b := by
        rcases split3 hab with ⟨c, h1, -⟩ | h1
        · exfalso
          have : bl l.runes = bl (a.flatMap Prod.snd) + bl (c.flatMap Prod.snd) := by rw [RT.runes_nodes, h1, List.flatMap_append, bl_append]
          omega
        · exact h1
      obtain ⟨c, rfl, hc⟩ := hcut
      rw [List.flatMap_append, bl_append, ← RT.runes_nodes, List.flatMap_cons, bl_append] at hk
      dsimp only at hk
      obtain ⟨k2, hk2⟩ : ∃ k2, k2 = bl (c.flatMap Prod.snd) := ⟨_, rfl⟩
      have e2 : k - bl l.runes - bl rs = k2 := by omega
      have hb3 : bl r.runes ≤ 4398046511104 := by have := cnt_b r.runes; obtain ⟨⟨b0, b1, -⟩, -, -⟩ := cnt_in r.runes; simp only [RT.runes_node, List.length_append] at hlen; omega
      have hb4 : bl r.runes = bl (c.flatMap Prod.snd) + bl (b.flatMap Prod.snd) := by rw [RT.runes_nodes, hc, List.flatMap_append, bl_append]
      rw [e2] at HE
      have hnn := RT.addT_nodes (x := x) hne.r.tl hc hk2.symm
      have HA : Hd (Ap (.node g rs l (RT.addT x r k2))) := ⟨ApN.ap (hd.perm (by
        rw [RT.nodes_node, RT.nodes_node, hnn, hc]
        have := (perm_mid (l.nodes ++ (g, rs) :: c) x.nodes b []).symm
        simpa using this))⟩
      have HI := fun w1 (hb : Below w.heap.size w w1) => Hd.mk (ihr (k := k2) (w := w1) (hx.below hb) (ht.2.2.below hb) hne.r.tl hrx ⟨c, b, hc, hk2.symm⟩)
      have HN : Hd ((∀ b ∈ l.blocks, ¬ addS r x b) ∧ ¬ addS r x g) := ⟨⟨fun b hb e => e.elim (fun e => HA0.lr b hb e) (hlb b hb), fun e => e.elim HA0.nr hgx⟩⟩
      have HW : Hd (IntKind.i64.wrap (IntKind.i64.wrap ((k : Int) - (bl l.runes : Int)) - (bl rs : Int)) = (k2 : Int)) := ⟨by rw [IntKind.wrap_i64 (n := (k : Int) - (bl l.runes : Int)), IntKind.wrap_i64] <;> omega⟩
      clear h hc hk hk2 hab hnn hd hne ihl ihr hx ht hlx hrx hgx hlb hrb HA0 hlen hsm e2 hb3 hb4
      simp only [RT.ptr] at c9 c10 ⊢
      go_enter Tryd.func130, Tryd.ntmps130
      go_wp2_with (go_at_call 111; refine (all_calls (t := l) HT.out.2.1).mono ?_; rintro e w1 ⟨rfl, hb⟩; have hg1 := HT.out.1.below hb HT.out.1.lt; obtain ⟨-, c1, -, -, -, -, -, -, -, c9, c10, -⟩ := nodeV_cell hg1; rw [cnt_b] at c1; have lt := hg1.lt; have fr := hg1.frozen; simp only [RT.ptr] at c9 c10; have HB := Hd.mk hb; clear hb hg1)
      go_region_with (go_at_call 130; rw [HW.out]; refine (HI _ (ex_drew HB.out)).out.mono ?_; rintro e w2 ⟨he, ht2, ho2⟩; simp only [RT.ptr] at he; obtain rfl := he; have hg2 := (HT.out.1.below (ex_drew HB.out) HT.out.1.lt).only ho2 HN.out.2; obtain ⟨-, c1, -, -, -, -, -, -, -, c9, c10, -⟩ := nodeV_cell hg2; have lt := hg2.lt; have fr := hg2.frozen; simp only [RT.ptr] at c9 c10; have HG2 := Hd.mk hg2; have HT2 := Hd.mk ht2; have HO2 := Hd.mk ho2; clear hg2 ht2 ho2)
      all_goals go_wp2_with (go_at_call 132; refine (level_calls (g := g) (rs := rs) (l := l) (r := RT.addT x r k2) (raw_right HG2.out ((HT.out.2.1.below (ex_drew HB.out)).only HO2.out HN.out.1) HT2.out HA.out.nl HA.out.nr) HA.out).mono ?_; rintro e w3 ⟨he, ht3, ho3⟩; simp only [RT.ptr] at he; obtain rfl := he; have HT3 := Hd.mk ht3; have HO3 := Hd.mk ho3; clear ht3 ho3)
      all_goals go_ret
      all_goals rw [HE.out]
      all_goals refine ⟨rfl, HT3.out, ((only_set (((Only.of_below (ex_drew HB.out)).trans (HO2.out.mono ?_))) ?_).trans (HO3.out.mono ?_))⟩
      all_goals first
        | exact .inl (by simp)
        | (rintro k - h; exact h.elim (fun h => .inl (by simp [h])) .inr)
        | (rintro k - h
           simp only [RT.blocks_node, List.mem_append, List.mem_cons] at h
           rcases h with h | h | h
           · exact .inl (by simp [h])
           · exact .inl (by simp [h])
           · exact (addT_mem h).elim (fun h => .inl (by simp [h])) .inr)
end Go.Proofs.YtgokmldngnmmhaaDoor
