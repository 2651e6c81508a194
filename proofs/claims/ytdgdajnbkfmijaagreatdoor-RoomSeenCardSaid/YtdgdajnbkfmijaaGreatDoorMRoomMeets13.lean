/- Several texts of the proof, one behind the other: RopeG, RopeI, RopeJ, PosP. -/
import Derived.Test.YtdgdajnbkfmijaaGreatDoorMRoomMeets12
import Derived.Deep.AppendLies
import Derived.Deep.RegionLaw
import Derived.IntWalk
/- cuts. -/
namespace Go.Proofs.YtdgdajnbkfmijaaGreatDoor
open Go.RowKit
set_option maxRecDepth 100000
theorem el_str : El Tryz.prog 46 9 1 16 := El.mk' Tryz.underlying46 (by kernel_rfl) (by decide)
/-- Chunks as a row of strings. -/
def cstr (cs : List (List Int)) : List Value := cs.map fun c => .string ⟨(U.encs c).toArray⟩
theorem cstr_append (a b : List (List Int)) : cstr (a ++ b) = cstr a ++ cstr b := by simp [cstr]
theorem ext_take0 {s : U.Bs} {k : Nat} (hk : k ≤ s.length) : (ByteArray.mk s.toArray).extract 0 k = ⟨(s.take k).toArray⟩ := by
  simp [ByteArray.extract, ByteArray.copySlice, hk]
theorem take_fill (rs : List Int) (k : Nat) : (U.encs rs).take (bl (fill rs k)) = U.encs (fill rs k) ∧ (U.encs rs).drop (bl (fill rs k)) = U.encs (rs.drop (fill rs k).length) := by
  have e : U.encs rs = U.encs (fill rs k) ++ U.encs (rs.drop (fill rs k).length) := by rw [← U.encs_append, ← fill_drop]
  unfold bl
  constructor
  · conv => lhs; rw [e]
    exact List.take_left
  · conv => lhs; rw [e]
    exact List.drop_left
/-- Where the cut is sought. -/
theorem cut_here {rs : List Int} (h : U.AllR rs) {k : Nat} (h1 : bl (fill rs 32) ≤ k) (h2 : k ≤ 32) (h3 : 32 < bl rs) : U.cont ((U.encs rs).getD k 0) = decide (bl (fill rs 32) < k) := by
  have hr := redg_iff h (a := k) (by omega)
  have hn : k ≠ (U.encs rs).length := by have : (U.encs rs).length = bl rs := rfl; omega
  unfold redg at hr
  rw [decide_eq_false hn, Bool.false_or] at hr
  by_cases hk : bl (fill rs 32) < k
  · rw [decide_eq_true hk]
    cases hc : U.cont ((U.encs rs).getD k 0) with
    | true => rfl
    | false =>
      exfalso
      rw [hc] at hr
      obtain ⟨p, q, e, hb⟩ := hr.1 rfl
      have := fill_max e (k := 32) (by omega)
      omega
  · rw [decide_eq_false hk]
    obtain ⟨q, e⟩ := fill_pre rs 32
    have := hr.2 ⟨fill rs 32, q, e, by omega⟩
    simpa using this
theorem cutR_step {rs : List Int} (h : 32 < bl rs) : cutR rs = fill rs 32 :: cutR (rs.drop (fill rs 32).length) := by
  conv => lhs; unfold cutR
  rw [dif_pos h]
theorem cutR_last {rs : List Int} (h : ¬ 32 < bl rs) : cutR rs = if rs = [] then [] else [rs] := by
  conv => lhs; unfold cutR
  rw [dif_neg h]
section
variable {P : Program}
/-- append(own, x) of a literal of one block, at a step of a region that draws. -/
theorem step_app {ops : Array Oper} {o : Oper} {a : Act} {w : World} {K : Act → World → Prop} {Q : Exit → Act → World → Prop} {F : Prop} {s x : Operand} {t e : TypeId} {size bytes base n m B : Nat} {v : Value} {xs : List Value} {cs : Array Value}
    (E : El P t e size bytes) (hgd : o.guard = none) (ho : o.op = .call { callee := .builtin .append, args := #[s, x], argTypes := #[t, t] }) (hs : a.eval s = v) (hown : w.ownsRow base e size v n xs)
    (hx : a.eval x = .slice (some ⟨B, 0, none⟩) m m) (hb : w.heap[B]? = some (.cells cs e (0, 0))) (hl : cs.toList.length = m * size) (h1 : ∀ u ∈ cs.toList, u.oneCell' = true) (hm : 0 < m)
    (h63 : n + m ≤ maxLen) (hbytes : (n + m) * bytes ≤ 140737488355328) (hbase : base ≤ w.heap.size)
    (h : ∀ g cap w', w'.ownsRow base e size (.slice (some ⟨g, 0, none⟩) (n + m) cap) (n + m) (xs ++ cs.toList) → Below base w w' → K (a.put o.dst (.slice (some ⟨g, 0, none⟩) (n + m) cap)) w') :
    if Region.wanted o (yielded ops a.tmps) = true then Oper.wp P o a w K Q else F := by
  obtain ⟨i, z, hi, hz, hsi, hby, hzs⟩ := E.hi
  refine step_append_lies w hgd s x t ho base e i z size bytes E.ht hi hz hsi hby hzs E.pos v n xs hs hown ⟨B, 0, none⟩ m m cs.toList hx hl (World.news_of_block hb) h1 hm h63 hbytes hbase _ rfl ?_
  intro g cap w' ho' hg _ _
  have hlt := hown.lt
  exact h g cap w' ho' ⟨hg.os, hg.tape, hg.output, hg.size, fun k hk => hg.block k (by omega) (fun e => by have := (hlt k e.symm).1; omega)⟩
end
theorem bl_drop (rs : List Int) (k : Nat) : bl (rs.drop k) = bl rs - bl (rs.take k) := by
  have : rs = rs.take k ++ rs.drop k := (List.take_append_drop k rs).symm
  conv => rhs; lhs; rw [this]
  rw [bl_append]; omega
attribute [local go_sem] ext_drop
set_option maxHeartbeats 4000000 in
theorem cuts_calls {rs : List Int} (hr : U.AllR rs) (hs : bl rs ≤ 1000000) (w : World) :
    Calls Tryz.prog 133 #[.string ⟨(U.encs rs).toArray⟩] w fun e w' => ∃ v, e = .returned v ∧ Below w.heap.size w w' ∧ w'.ownsRow w.heap.size 9 1 v (cutR rs).length (cstr (cutR rs)) := by
  have HR := Hd.mk hr
  have HS := Hd.mk hs
  clear hr hs
  go_enter Tryz.func133, Tryz.ntmps133
  go_wp2_with fail
  go_loopg [0, 3] rs.length (fun gk sv out wr => ∃ (d : List (List Int)) (q : List Int), sv = .string ⟨(U.encs q).toArray⟩ ∧ cutR rs = d ++ cutR q ∧ U.AllR q ∧ q.length = gk ∧ bl q ≤ bl rs ∧ d.length + q.length ≤ rs.length ∧ wr.ownsRow w.heap.size 9 1 out d.length (cstr d) ∧ Below w.heap.size w wr)
  case atStart => exact ⟨[], rs, rfl, rfl, HR.out, rfl, Nat.le_refl _, by simp, ⟨rfl, .inl ⟨rfl, rfl⟩⟩, Below.refl _ _⟩
  case round =>
    obtain ⟨d, q, rfl, hc, hq, hg, hb, hdl, hown, hbel⟩ := hrel
    have HC := Hd.mk hc
    have HQ := Hd.mk hq
    have HG := Hd.mk hg
    have HO := Hd.mk hown
    have HB := Hd.mk hbel
    have hrl := bl_len rs
    have hs := HS.out
    have HDL : Hd (d.length + q.length ≤ 1000000) := ⟨by omega⟩
    have hlq : (U.encs q).length = bl q := rfl
    have hbq : bl q ≤ 1000000 := by omega
    have HBQ := Hd.mk hb
    have HDL0 := Hd.mk hdl
    clear hc hq hg hown hbel hrl hs hdl
    by_cases h1 : 32 < bl q
    · have hi : (32 : Int) < (bl q : Int) := by omega
      have HFL : Hd (bl (fill q 32) ≤ 32 ∧ fill q 32 ≠ []) := ⟨fill_le _ _, fill_ne (by rintro rfl; simp at h1) (by omega)⟩
      have HTF := Hd.mk (take_fill q 32)
      have HST := Hd.mk (cutR_step h1)
      have HCU : Hd (∀ k, bl (fill q 32) ≤ k → k ≤ 32 → U.cont ((U.encs q).getD k 0) = decide (bl (fill q 32) < k)) := ⟨fun k h2 h3 => cut_here HQ.out h2 h3 h1⟩
      go_wp2_with fail
      go_loopg [4] 32 (fun gk kv wr' => ∃ k : Nat, kv = .int .i64 k ∧ k = gk ∧ bl (fill q 32) ≤ k ∧ k ≤ 32 ∧ wr' = wr)
      case atStart => exact ⟨32, rfl, rfl, HFL.out.1, Nat.le_refl _, rfl⟩
      case round =>
        obtain ⟨k, rfl, hk0, hk1, hk2, rfl⟩ := hrel
        have e0 := fun hh => byte_at (s := U.encs q) (j := k) (by omega) hh
        have hcc := HCU.out k hk1 hk2
        have HK1 := Hd.mk hk1
        by_cases h2 : bl (fill q 32) < k
        · rw [decide_eq_true h2] at hcc
          have hct := contT hcc
          have HK0 := Hd.mk hk0
          have HK2 := Hd.mk h2
          clear hcc h2 hk0 hk1
          generalize (U.encs q).getD k 0 = x at *
          have hx := x.toNat_lt
          go_wp2_with fail
          go_roundg (k - 1)
          case rel => exact ⟨k - 1, by congr 1; have := HK2.out; omega, rfl, by have := HK2.out; omega, by omega, rfl⟩
          case measure => have := HK0.out; have := HK2.out; omega
        · have hke : bl (fill q 32) = k := by omega
          rw [decide_eq_false h2] at hcc
          have hct := contF (by rw [hcc]; exact Bool.false_ne_true)
          rw [hke] at HTF
          clear hcc h2 hk0 hk1
          have hx := ((U.encs q).getD k 0).toNat_lt
          generalize (U.encs q).getD k 0 = x at *
          have hkl : k ≤ (U.encs q).length := by omega
          have e1 := ext_take0 hkl
          have e2 : (ByteArray.mk (U.encs q).toArray).extract k (bl q) = ⟨((U.encs q).drop k).toArray⟩ := ext_drop _ _
          rw [HTF.out.1] at e1
          rw [HTF.out.2] at e2
          rw [hlq] at hkl
          have HKE := Hd.mk hke
          clear hke
          go_wp2_with fail
          go_region_law (first | (refine step_app (m := 1) (B := wr.heap.size) (cs := #[Value.string ⟨(U.encs (fill q 32)).toArray⟩]) (base := w.heap.size) (n := d.length) (v := u3) (xs := cstr d) el_str rfl rfl rfl ((own_only HO.out (Only.of_below (S := fun _ => False) (Below.refl _ _)) (fun _ _ h => h)).drew.alloc _) rfl (heap_alloc_new wr.drew _) rfl (one1 rfl) (by decide) (by have := HDL.out; unfold maxLen; omega) (by have := HDL.out; omega) (by have := HB.out.size; simp; omega) ?_; intro g2 cap2 w2 hown2 hbel2))
          have HO2 := Hd.mk hown2
          have HB2 := Hd.mk hbel2
          clear hown2 hbel2
          go_wp2_with fail
          go_roundg (q.drop (fill q 32).length).length
          case rel =>
            refine ⟨d ++ [fill q 32], q.drop (fill q 32).length, rfl, by rw [HC.out, HST.out]; simp, fun x hx => HQ.out x (List.mem_of_mem_drop hx), rfl, by rw [bl_drop]; have := HBQ.out; omega, ?_, ?_, ?_⟩
            · have := List.length_pos_iff.2 HFL.out.2
              have h3 : 0 < q.length := by
                rcases q with _ | ⟨y, q⟩
                · simp at h1
                · simp
              have := HDL0.out
              rw [List.length_drop, List.length_append, List.length_singleton]; omega
            · have := HO2.out
              rw [cstr_append, List.length_append, List.length_singleton]; exact this
            · refine HB.out.trans ⟨HB2.out.os, HB2.out.tape, HB2.out.output, ?_, fun i hi => ?_⟩
              · have := HB2.out.size; simp at this; omega
              · rw [HB2.out.block i hi]; exact Below.heap_alloc wr.drew _ i (by have := HB.out.size; simp; omega)
          case measure =>
            have := List.length_pos_iff.2 HFL.out.2
            have h3 : 0 < q.length := by
              rcases q with _ | ⟨y, q⟩
              · simp at h1
              · simp
            have := HG.out
            rw [List.length_drop]; omega
    · have hi : ¬ ((32 : Int) < (bl q : Int)) := by omega
      have hcl := cutR_last h1
      cases q with
      | nil =>
        have HCL : Hd (cutR rs = d) := ⟨by rw [HC.out, hcl, if_pos rfl, List.append_nil]⟩
        have hbq0 : bl [] = 0 := rfl
        clear hcl hi h1 hlq hbq
        simp only [U.encs_nil]
        go_wp2_with fail
        go_ret
        rw [HCL.out]
        exact ⟨_, rfl, HB.out, HO.out⟩
      | cons y q =>
        have HCL : Hd (cutR rs = d ++ [y :: q]) := ⟨by rw [HC.out, hcl, if_neg (by simp)]⟩
        have hne : (U.encs (y :: q) == []) = false := by rw [beq_eq_false_iff_ne]; intro e; have := bl_pos (rs := y :: q) (by simp); unfold bl at this; rw [e] at this; simp at this
        generalize y :: q = q2 at *
        clear hcl
        go_wp2_with (at_builtin; refine append_lit el_str #[.string ⟨(U.encs q2).toArray⟩] HO.out rfl rfl rfl rfl rfl (one1 rfl) (by have := HDL.out; unfold maxLen; omega) (by have := HDL.out; omega) HB.out.size ?_; intro v1 w1 hown1 hbel1 _; have HO1 := Hd.mk hown1; have HB1 := Hd.mk hbel1; clear hown1 hbel1)
        go_ret
        rw [HCL.out]
        refine ⟨_, rfl, HB.out.trans HB1.out, ?_⟩
        have := HO1.out
        rw [cstr_append, List.length_append, List.length_singleton]
        exact this
end Go.Proofs.YtdgdajnbkfmijaaGreatDoor
/- lay. -/
namespace Go.Proofs.YtdgdajnbkfmijaaGreatDoor
open Go.RowKit
set_option maxRecDepth 100000
/-- A tree that comes of another one: of its blocks, or new ones. -/
structure Lay (w w' : World) (p : Nat) (t t' : RT) : Prop where
  at_ : AtR w' p t'
  nodup : t'.blocks.Nodup
  sub : ∀ i ∈ t'.blocks, i ∈ t.blocks ∨ w.heap.size ≤ i
  only : Only (fun i => i = p ∨ i ∈ t.blocks) w w'
  bal : t.Bal → t'.Bal
theorem ap_leaf {t : RT} {g : Nat} {c : List Int} (hn : t.blocks.Nodup) (hg : g ∉ t.blocks) (ne : Ne t.chunks) (hs : bl t.runes + bl c ≤ 1000000) : ApN (t.nodes ++ (RT.node g c .nil .nil).nodes) := by
  have h1 := bl_len t.runes
  have h2 := bl_len c
  have h3 := ne_len ne
  rw [RT.len_chunks, ← RT.runes_chunks] at h3
  refine ⟨?_, ⟨?_, ?_⟩⟩
  · simp only [RT.nodes_node, RT.nodes_nil, List.nil_append, List.map_append, List.map_cons, List.map_nil]
    exact List.nodup_append.2 ⟨hn, by simp, fun x hx y hy e => by simp at hy; subst hy; subst e; exact hg hx⟩
  · rw [List.flatMap_append, ← RT.runes_nodes]; simp; omega
  · simp; omega
theorem nodes_split {t : RT} {a b : List (List Int)} (h : t.chunks = a ++ b) : ∃ na nb, t.nodes = na ++ nb ∧ na.map Prod.snd = a ∧ nb.map Prod.snd = b := by
  obtain ⟨na, nb, h1, h2, h3⟩ := List.map_eq_append_iff.1 h
  exact ⟨na, nb, h1, h2, h3⟩
theorem flat_cb (na : List (Nat × List Int)) : bl (na.flatMap Prod.snd) = cb (na.map Prod.snd) := by rw [List.flatMap_def]; rfl
theorem addT_chunks {x t : RT} {k : Nat} {a b : List (List Int)} (hne : Ne t.chunks) (h : t.chunks = a ++ b) (hk : cb a = k) : (RT.addT x t k).chunks = a ++ x.chunks ++ b := by
  obtain ⟨na, nb, h1, h2, h3⟩ := nodes_split h
  unfold RT.chunks
  rw [RT.addT_nodes hne h1 (by rw [flat_cb, h2, hk])]
  simp [h2, h3]
theorem addT_nodup {x t : RT} {k : Nat} {a b : List (List Int)} (hne : Ne t.chunks) (h : t.chunks = a ++ b) (hk : cb a = k) (hd : ApN (t.nodes ++ x.nodes)) : (RT.addT x t k).blocks.Nodup := by
  obtain ⟨na, nb, h1, h2, h3⟩ := nodes_split h
  unfold RT.blocks
  rw [RT.addT_nodes hne h1 (by rw [flat_cb, h2, hk])]
  have := (perm_mid na x.nodes nb []).symm
  rw [h1] at hd
  exact (hd.perm (by simpa using this)).nodup
/-- One chunk more. -/
theorem Lay.more {w1 wr w2 w3 : World} {p g k : Nat} {t t' : RT} {c : List Int} {a b : List (List Int)} (h : Lay w1 wr p t t') (hb : Below wr.heap.size wr w2) (hg : wr.heap.size ≤ g) (hne : Ne t'.chunks) (hab : t'.chunks = a ++ b) (hk : cb a = k)
    (hd : ApN (t'.nodes ++ (RT.node g c .nil .nil).nodes)) (ht : AtT w3 (RT.addT (.node g c .nil .nil) t' k)) (ho : Only (addS t' (.node g c .nil .nil)) w2 w3) (_hp : p < w1.heap.size) :
    Lay w1 (w3.setCell ⟨p, 0, none⟩ (RT.addT (.node g c .nil .nil) t' k).ptr) p t (RT.addT (.node g c .nil .nil) t' k) := by
  have hpl := h.at_.blk.lt
  have hpn : ¬ addS t' (.node g c .nil .nil) p := fun e => e.elim h.at_.out (fun e => by simp at e; omega)
  have hp3 := (h.at_.blk.below hb hpl).only ho hpn
  have hout : p ∉ (RT.addT (.node g c .nil .nil) t' k).blocks := fun e => hpn (addT_mem e)
  refine ⟨⟨hp3.set_ 0 _, ht.only ((Only.refl (fun i => i = p) w3).setCell (p := ⟨p, 0, none⟩) (.inl rfl) _) (fun i hi e => hout (e ▸ hi)), hout⟩, addT_nodup hne hab hk hd, fun i hi => ?_, ?_, fun hbal => ?_⟩
  · rcases addT_mem hi with e | e
    · exact h.sub i e
    · simp at e; subst e; exact .inr (Nat.le_trans h.only.size hg)
  · refine only_set ((h.only.then_below hb).step ho ?_) (.inl rfl)
    intro i hi e
    rcases e with e | e
    · rcases h.sub i e with e | e
      · exact .inr e
      · omega
    · simp at e; have := h.only.size; omega
  · exact (RT.addT_bal (by simp [RT.Bal]) rfl (h.bal hbal) _).1
set_option maxHeartbeats 4000000 in
theorem lay_calls {p k : Nat} {t : RT} {rs : List Int} {a b : List (List Int)} {w : World} (h : AtR w p t) (hn : t.blocks.Nodup) (hne : Ne t.chunks) (hab : t.chunks = a ++ b) (hk : cb a = k) (hr : U.AllR rs) (hs : bl t.runes + bl rs ≤ 1000000) :
    Calls Tryz.prog 88 #[.pointer (some ⟨p, 0, none⟩), .int .i64 k, .string ⟨(U.encs rs).toArray⟩] w fun e w' => e = .returned (.tuple #[]) ∧ ∃ t', t'.chunks = a ++ cutR rs ++ b ∧ Lay w w' p t t' := by
  have HC := Hd.mk (cuts_calls hr (by omega) w)
  go_enter Tryz.func88, Tryz.ntmps88
  go_wp2_with (go_at_call 133; refine HC.out.mono ?_; rintro e w1 ⟨v, rfl, hb, hown⟩; obtain ⟨A, cp, rfl⟩ := own_form hown; have HB := Hd.mk hb; have HO := Hd.mk hown; clear hb hown)
  have HN := Hd.mk hne
  have HAB := Hd.mk hab
  have HK := Hd.mk hk
  have HS := Hd.mk hs
  have hL0 : Lay w1 w1 p t t := ⟨h.below HB.out, hn, fun i hi => .inl hi, Only.refl _ _, id⟩
  have HP : Hd (p < w1.heap.size ∧ (∀ i ∈ t.blocks, i < w.heap.size) ∧ p < w.heap.size ∧ U.AllR rs) := ⟨⟨by have := h.blk.lt; have := HB.out.size; omega, h.tree.lt, h.blk.lt, hr⟩⟩
  have hkb : k ≤ 1000000 := by have := cb_runes t; rw [hab, cb_append] at this; omega
  have HKB : Hd (cb a + bl rs ≤ 1000000) := ⟨by have := cb_runes t; rw [hab, cb_append] at this; omega⟩
  have HL0 := Hd.mk hL0
  clear h hn hne hab hk hr hs hL0
  go_loopw [1, 11] (fun kv i wr => ∃ (j : Nat) (t' : RT), j ≤ (cutR rs).length ∧ i = .int .i64 j ∧ kv = .int .i64 ((k + cb ((cutR rs).take j) : Nat) : Int) ∧ t'.chunks = a ++ (cutR rs).take j ++ b ∧ Lay w1 wr p t t') (fun _ i _ => (cutR rs).length - (intOf i).toNat)
  case atStart => exact ⟨0, t, Nat.zero_le _, rfl, rfl, by simpa using HAB.out, HL0.out⟩
  case round =>
    obtain ⟨j, t', hj, rfl, rfl, hch, hL⟩ := hrel
    by_cases hlt : j < (cutR rs).length
    · have hlt' : (j : Int) < ((cutR rs).length : Int) := by omega
      have hrow := own_only HO.out hL.only (fun i e hS => by
        have := (HO.out.lt i e).1
        rcases hS with rfl | hS
        · have := HP.out.2.2.1; omega
        · have := HP.out.2.1 i hS; omega)
      obtain ⟨ad, c', u, hv, hadl, hu, hcell⟩ := (Sl.of_own hrow).at_ hlt
      cases hv
      have hu2 : u = .string ⟨(U.encs (cutR rs)[j]).toArray⟩ := by
        unfold cstr at hu
        rw [List.getElem?_map, List.getElem?_eq_getElem hlt] at hu
        simpa using hu.symm
      subst hu2
      have HM := Hd.mk (cutR_mem (List.getElem_mem hlt))
      have HTK : Hd ((cutR rs).take (j + 1) = (cutR rs).take j ++ [(cutR rs)[j]]) := ⟨List.take_succ_eq_append_getElem hlt⟩
      have HRC : Hd (U.AllR (cutR rs)[j]) := ⟨fun x hx => HP.out.2.2.2 x (by rw [← cutR_flatten rs]; exact List.mem_flatten.2 ⟨_, List.getElem_mem hlt, hx⟩)⟩
      have hsum : cb ((cutR rs).take j) + bl (cutR rs)[j] ≤ bl rs := by
        have e : bl rs = cb (cutR rs) := by rw [cb, cutR_flatten]
        have e2 : cutR rs = (cutR rs).take (j + 1) ++ (cutR rs).drop (j + 1) := (List.take_append_drop _ _).symm
        rw [e]; conv => rhs; rw [e2]
        rw [HTK.out, cb_append, cb_append, cb_cons, cb_nil]; omega
      have hkb2 := HKB.out
      have hkk := HK.out
      have hnt : Ne t'.chunks := by
        rw [hch]
        have := HN.out; rw [HAB.out] at this
        exact (this.l.app (fun x hx => cutR_ne rs x (List.mem_of_mem_take hx))).app this.r
      have hsz : bl t'.runes + bl (cutR rs)[j] ≤ 1000000 := by
        have := cb_runes t'
        rw [hch, cb_append, cb_append] at this
        have h2 := cb_runes t
        rw [HAB.out, cb_append] at h2
        have := HS.out
        omega
      have HKJ : Hd (cb (a ++ (cutR rs).take j) = k + cb ((cutR rs).take j)) := ⟨by rw [cb_append]; omega⟩
      have HKJ2 : Hd (k + cb ((cutR rs).take (j + 1)) = k + cb ((cutR rs).take j) + bl (cutR rs)[j]) := ⟨by rw [HTK.out, cb_append, cb_cons, cb_nil]; omega⟩
      have HL := Hd.mk hL
      have HCH := Hd.mk hch
      have HNT := Hd.mk hnt
      have HSZ := Hd.mk hsz
      obtain ⟨kj, hkj⟩ : ∃ x, x = k + cb ((cutR rs).take j) := ⟨_, rfl⟩
      rw [← hkj] at HKJ HKJ2
      have hkjb : kj ≤ 1000000 := by omega
      have hcb : bl (cutR rs)[j] ≤ 32 := HM.out.2
      rw [← hkj]
      have HLC : Hd ((U.encs (cutR rs)[j]).length = bl (cutR rs)[j]) := ⟨rfl⟩
      have hlc : (U.encs (cutR rs)[j]).length ≤ 32 := HM.out.2
      have hjb : j ≤ 1000000 := by have h1 := ne_len (cutR_ne rs); have h2 := bl_len rs; rw [cutR_flatten] at h1; omega
      generalize (cutR rs)[j] = c at *
      have c0 := hL.at_.blk.cell 0
      have cf := hL.at_.blk.frozen
      have cl := hL.at_.blk.lt
      simp only [List.getElem?_toArray, List.getElem?_cons_zero, RT.ptr] at c0
      clear hL hch hnt hsz hrow hu hsum hkb2 hkk hkj hkb hj
      go_wp2_with fail
      go_region_with (first
        | (go_at_call 135; refine (leaf_calls (rs := c) HRC.out (by omega) _).mono ?_; rintro e w2 ⟨g, he, hgs, hat, hb2'⟩; have hb2 := undrew hb2'; clear hb2'; rw [RT.ptr_node] at he; obtain rfl := he; have hp2 := HL.out.at_.blk.below hb2 HL.out.at_.blk.lt; have c0 := hp2.cell 0; have cf := hp2.frozen; have cl := hp2.lt; simp only [List.getElem?_toArray, List.getElem?_cons_zero, RT.ptr] at c0; have HB2 := Hd.mk hb2; have HGS := Hd.mk hgs; have HAT := Hd.mk hat; have HAPN := Hd.mk (ap_leaf HL.out.nodup (fun e => by have := HL.out.at_.tree.lt g e; simp at hgs; omega) HNT.out HSZ.out); clear hp2 hb2 hgs hat)
        | (go_at_call 134; refine (add_calls (x := .node g c .nil .nil) (t := t') (k := kj) HAT.out (HL.out.at_.tree.below HB2.out) HNT.out HAPN.out (by obtain ⟨na, nb, e1, e2, e3⟩ := nodes_split HCH.out; exact ⟨na, nb, e1, by rw [flat_cb, e2]; exact HKJ.out⟩)).mono ?_; rintro e w3 ⟨he, ht3, ho3⟩; rw [RT.ptr] at he; obtain rfl := he; have HT3 := Hd.mk ht3; have HO3 := Hd.mk ho3; have hp3 := (HL.out.at_.blk.below HB2.out HL.out.at_.blk.lt).only ho3 (fun e => e.elim HL.out.at_.out (fun e => by have := HL.out.at_.blk.lt; have := HGS.out; simp at e this; omega)); have c0 := hp3.cell 0; have cf := hp3.frozen; have cl := hp3.lt; simp only [List.getElem?_toArray, List.getElem?_cons_zero, RT.ptr] at c0; clear hp3 ht3 ho3))
      all_goals
        have hmore := HL.out.more HB2.out (HGS.out : wr.heap.size ≤ g) HNT.out HCH.out HKJ.out HAPN.out HT3.out HO3.out HP.out.1
        have hch2 := addT_chunks (x := .node g c .nil .nil) HNT.out HCH.out HKJ.out
        have HCH2 := Hd.mk hch2
        rw [RT.ptr] at hmore
        have HMORE := Hd.mk hmore
        clear hmore hch2 c0 cf cl
        generalize (w3.setCell ⟨p, 0, none⟩ (.pointer (RT.addT (.node g c .nil .nil) t' kj).pa)) = wz at HMORE ⊢
        go_wp2_with fail
        refine ⟨⟨j + 1, RT.addT (.node g c .nil .nil) t' kj, by omega, by go_num, by rw [HKJ2.out] <;> congr 1, ?_, HMORE.out⟩, by simp only [intOf]; omega⟩
        rw [HCH2.out, HTK.out]
        simp
    · obtain rfl : j = (cutR rs).length := by omega
      have HL := Hd.mk hL
      have HCH := Hd.mk hch
      clear hL hch
      go_wp2_with fail
      go_end0
      refine ⟨rfl, t', ?_, ⟨HL.out.at_, HL.out.nodup, fun i hi => (HL.out.sub i hi).imp id (fun h => Nat.le_trans HB.out.size h), (Only.of_below HB.out).trans HL.out.only, HL.out.bal⟩⟩
      have := HCH.out
      rwa [List.take_length] at this
end Go.Proofs.YtdgdajnbkfmijaaGreatDoor
/- New. -/
namespace Go.Proofs.YtdgdajnbkfmijaaGreatDoor
open Go.RowKit
set_option maxRecDepth 100000
def errno (e : Int) : Value := .iface 29 (.int .i64 e)
/-- What New hands back: a document of the text; or an error. -/
def NewPost (rs : List Int) (rest : U.Bs) (w : World) (e : Ending) (w' : World) : Prop :=
  Below w.heap.size w w' ∧ (rest ≠ [] → ∃ g, e = .returned (.tuple #[.pointer none, atV g]) ∧ AtBlk w' g 3 (bl rs)) ∧
    (rest = [] → 8000 < bl rs → e = .returned (.tuple #[.pointer none, errno 12])) ∧
    (rest = [] → bl rs ≤ 8000 → ∃ p t, e = .returned (.tuple #[.pointer (some ⟨p, 0, none⟩), .nilIface]) ∧ AtR w' p t ∧ Good t ∧ t.runes = rs ∧ w.heap.size ≤ p ∧ ∀ i ∈ t.blocks, w.heap.size ≤ i)
set_option maxHeartbeats 4000000 in
theorem new_calls {s : U.Bs} {rs : List Int} {rest : U.Bs} (h : U.Sp s rs rest) (w : World) (hs : s.length ≤ 1000000) :
    Calls Tryz.prog 48 #[.string ⟨s.toArray⟩] w (NewPost rs rest w) := by
  have HC := Hd.mk (count_calls h w (by omega))
  have HA : Hd (U.AllR rs) := ⟨h.all⟩
  by_cases hr : rest = []
  · subst hr
    obtain rfl : s = U.encs rs := by have := h.eq; simpa using this
    have hbl : (U.encs rs).length = bl rs := rfl
    by_cases hb : bl rs ≤ 8000
    · have hi : ¬ ((8000 : Int) < (bl rs : Int)) := by omega
      have HB := Hd.mk hb
      clear h
      go_enter Tryz.func48, Tryz.ntmps48
      go_wp2_with (first
        | (go_at_call 21; refine HC.out.mono ?_; rintro e w1 ⟨hb1, he, -⟩; obtain rfl := he rfl; have HB1 := Hd.mk hb1; clear hb1 he)
        | (go_at_call 88; refine (lay_calls (p := w1.heap.size + 1) (k := 0) (t := .nil) (rs := rs) (a := []) (b := []) ⟨by have := Blk.new (w1.alloc (.cells #[Value.int .i64 (cnt rs).b, .int .i64 (cnt rs).h, .int .i64 (cnt rs).r, .int .i64 (cnt rs).l] 63)) 163 #[RT.ptr .nil]; rw [World.size_alloc] at this; exact this, trivial, by simp⟩ (by simp) (by intro c hc; simp at hc) rfl rfl HA.out (by have := HB.out; simp; omega)).mono ?_; rintro e w2 ⟨rfl, t, hch, hL⟩; have HCH := Hd.mk hch; have HL := Hd.mk hL; clear hch hL))
      go_ret2
      refine ⟨?_, fun h => absurd rfl h, fun _ h => absurd h (by have := HB.out; omega), fun _ _ => ⟨w1.heap.size + 1, t, rfl, HL.out.at_, ?_, ?_, by have := HB1.out.size; omega, fun i hi => ?_⟩⟩
      · refine (Only.trans (S := fun i => i = w1.heap.size + 1 ∨ i ∈ RT.nil.blocks) ?_ HL.out.only).below (Nat.le_refl _) (fun k hk e => ?_)
        · exact Only.of_below (((HB1.out.alloc HB1.out.size _)).alloc (by simp; have := HB1.out.size; omega) _)
        · have := HB1.out.size
          rcases e with e | e
          · omega
          · simp at e
      · have hc : t.chunks = cutR rs := by simpa using HCH.out
        have hrr : t.runes = rs := by rw [RT.runes_chunks, hc, cutR_flatten]
        exact ⟨HL.out.nodup, by rw [hc]; exact cutR_ne rs, fun c hc' => (cutR_mem (by rw [← hc]; exact hc')).2, by rw [hrr]; exact HA.out, HL.out.bal trivial, by rw [hrr]; exact HB.out⟩
      · rw [RT.runes_chunks, HCH.out]; simp [cutR_flatten]
      · rcases HL.out.sub i hi with h | h
        · simp at h
        · have := HB1.out.size; simp at h; omega
    · have hi : (8000 : Int) < (bl rs : Int) := by omega
      have HB := Hd.mk hb
      clear h
      go_enter Tryz.func48, Tryz.ntmps48
      go_wp2_with (go_at_call 21; refine HC.out.mono ?_; rintro e w1 ⟨hb1, he, -⟩; obtain rfl := he rfl; have HB1 := Hd.mk hb1; clear hb1 he)
      go_ret2
      exact ⟨ex_alloc HB1.out _, fun h => absurd rfl h, fun _ _ => rfl, fun _ h => absurd h (by have := HB.out; omega)⟩
  · clear h
    go_enter Tryz.func48, Tryz.ntmps48
    go_wp2_with (go_at_call 21; refine HC.out.mono ?_; rintro e w1 ⟨hb1, -, he⟩; obtain ⟨g, rfl, hat⟩ := he hr; have HB1 := Hd.mk hb1; have HAT := Hd.mk hat; clear hb1 he hat)
    go_ret2
    exact ⟨ex_alloc HB1.out _, fun _ => ⟨g, rfl, by have := HAT.out.below (ex_alloc (Below.refl _ _) (.cells #[Value.int .i64 Cn.zero.b, .int .i64 Cn.zero.h, .int .i64 Cn.zero.r, .int .i64 Cn.zero.l] 63)); rw [U.off_full] at this; exact this⟩, fun h => absurd h hr, fun h => absurd h hr⟩
end Go.Proofs.YtdgdajnbkfmijaaGreatDoor
/- pick and document of the laws. -/
namespace Go.Proofs.YtdgdajnbkfmijaaGreatDoor
open Go.RowKit
set_option maxRecDepth 100000
theorem pick_calls (a n : Int) (hn : 0 < n ∧ n ≤ 1000000) (w : World) : Calls Tryz.prog 22 #[.int .i64 a, .int .i64 n] w fun e w' => ∃ k : Int, e = .returned (.int .i64 k) ∧ 0 ≤ k ∧ k < n ∧ w' = w := by
  obtain ⟨h1, h2⟩ := hn
  go_enter Tryz.func22, Tryz.ntmps22
  have hm : 0 ≤ IntKind.u64.wrap a := by unfold IntKind.wrap; simp [IntKind.signed, IntKind.bits]; omega
  have h3 : 0 ≤ IntKind.u64.wrap a % n := Int.emod_nonneg _ (by omega)
  have h4 : IntKind.u64.wrap a % n < n := Int.emod_lt_of_pos _ h1
  go_wp2_with fail
  go_ret
  exact ⟨_, rfl, h3, h4, rfl⟩
end Go.Proofs.YtdgdajnbkfmijaaGreatDoor
