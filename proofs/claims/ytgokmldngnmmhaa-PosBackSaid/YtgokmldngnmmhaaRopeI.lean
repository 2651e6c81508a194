/- lay. -/
import Derived.Test.YtgokmldngnmmhaaRopeG
namespace Go.Proofs.Ytgokmldngnmmhaa
open Go.RowKit
set_option maxRecDepth 100000
/-- A tree that comes of another one: of its blocks, or new ones. -/
structure Lay (w w' : World) (p : Nat) (t t' : RT) : Prop where
  at_ : AtR w' p t'
  nodup : t'.blocks.Nodup
  sub : ∀ i ∈ t'.blocks, i ∈ t.blocks ∨ w.heap.size ≤ i
  only : Only (fun i => i = p ∨ i ∈ t.blocks) w w'
  bal : t.Bal → t'.Bal
theorem ap_leaf {t : RT} {g : Nat} {c : List Int} (hn : t.blocks.Nodup) (hg : g ∉ t.blocks) (ne : Ne t.chunks) (hs : bl t.runes + bl c ≤ 1000000) : ApN (t.nodes ++ (RT.node g c .nil .nil).nodes) := by
  have h1 := bl_len t.runes
  have h2 := bl_len c
  have h3 := ne_len ne
  rw [RT.len_chunks, ← RT.runes_chunks] at h3
  refine ⟨?_, ⟨?_, ?_⟩⟩
  · simp only [RT.nodes_node, RT.nodes_nil, List.nil_append, List.map_append, List.map_cons, List.map_nil]
    exact List.nodup_append.2 ⟨hn, by simp, fun x hx y hy e => by simp at hy; subst hy; subst e; exact hg hx⟩
  · rw [List.flatMap_append, ← RT.runes_nodes]; simp; omega
  · simp; omega
theorem nodes_split {t : RT} {a b : List (List Int)} (h : t.chunks = a ++ b) : ∃ na nb, t.nodes = na ++ nb ∧ na.map Prod.snd = a ∧ nb.map Prod.snd = b := by
  obtain ⟨na, nb, h1, h2, h3⟩ := List.map_eq_append_iff.1 h
  exact ⟨na, nb, h1, h2, h3⟩
theorem flat_cb (na : List (Nat × List Int)) : bl (na.flatMap Prod.snd) = cb (na.map Prod.snd) := by rw [List.flatMap_def]; rfl
theorem addT_chunks {x t : RT} {k : Nat} {a b : List (List Int)} (hne : Ne t.chunks) (h : t.chunks = a ++ b) (hk : cb a = k) : (RT.addT x t k).chunks = a ++ x.chunks ++ b := by
  obtain ⟨na, nb, h1, h2, h3⟩ := nodes_split h
  unfold RT.chunks
  rw [RT.addT_nodes hne h1 (by rw [flat_cb, h2, hk])]
  simp [h2, h3]
theorem addT_nodup {x t : RT} {k : Nat} {a b : List (List Int)} (hne : Ne t.chunks) (h : t.chunks = a ++ b) (hk : cb a = k) (hd : ApN (t.nodes ++ x.nodes)) : (RT.addT x t k).blocks.Nodup := by
  obtain ⟨na, nb, h1, h2, h3⟩ := nodes_split h
  unfold RT.blocks
  rw [RT.addT_nodes hne h1 (by rw [flat_cb, h2, hk])]
  have := (perm_mid na x.nodes nb []).symm
  rw [h1] at hd
  exact (hd.perm (by simpa using this)).nodup
/-- One chunk more. -/
theorem Lay.more {w1 wr w2 w3 : World} {p g k : Nat} {t t' : RT} {c : List Int} {a b : List (List Int)} (h : Lay w1 wr p t t') (hb : Below wr.heap.size wr w2) (hg : wr.heap.size ≤ g) (hne : Ne t'.chunks) (hab : t'.chunks = a ++ b) (hk : cb a = k)
    (hd : ApN (t'.nodes ++ (RT.node g c .nil .nil).nodes)) (ht : AtT w3 (RT.addT (.node g c .nil .nil) t' k)) (ho : Only (addS t' (.node g c .nil .nil)) w2 w3) (_hp : p < w1.heap.size) :
    Lay w1 (w3.setCell ⟨p, 0, none⟩ (RT.addT (.node g c .nil .nil) t' k).ptr) p t (RT.addT (.node g c .nil .nil) t' k) := by
  have hpl := h.at_.blk.lt
  have hpn : ¬ addS t' (.node g c .nil .nil) p := fun e => e.elim h.at_.out (fun e => by simp at e; omega)
  have hp3 := (h.at_.blk.below hb hpl).only ho hpn
  have hout : p ∉ (RT.addT (.node g c .nil .nil) t' k).blocks := fun e => hpn (addT_mem e)
  refine ⟨⟨hp3.set_ 0 _, ht.only ((Only.refl (fun i => i = p) w3).setCell (p := ⟨p, 0, none⟩) (.inl rfl) _) (fun i hi e => hout (e ▸ hi)), hout⟩, addT_nodup hne hab hk hd, fun i hi => ?_, ?_, fun hbal => ?_⟩
  · rcases addT_mem hi with e | e
    · exact h.sub i e
    · simp at e; subst e; exact .inr (Nat.le_trans h.only.size hg)
  · refine only_set ((h.only.then_below hb).step ho ?_) (.inl rfl)
    intro i hi e
    rcases e with e | e
    · rcases h.sub i e with e | e
      · exact .inr e
      · omega
    · simp at e; have := h.only.size; omega
  · exact (RT.addT_bal (by simp [RT.Bal]) rfl (h.bal hbal) _).1
set_option maxHeartbeats 4000000 in
theorem lay_calls {p k : Nat} {t : RT} {rs : List Int} {a b : List (List Int)} {w : World} (h : AtR w p t) (hn : t.blocks.Nodup) (hne : Ne t.chunks) (hab : t.chunks = a ++ b) (hk : cb a = k) (hr : U.AllR rs) (hs : bl t.runes + bl rs ≤ 1000000) :
    Calls Try.prog 21 #[.pointer (some ⟨p, 0, none⟩), .int .i64 k, .string ⟨(U.encs rs).toArray⟩] w fun e w' => e = .returned (.tuple #[]) ∧ ∃ t', t'.chunks = a ++ cutR rs ++ b ∧ Lay w w' p t t' := by
  have HC := Hd.mk (cuts_calls hr (by omega) w)
  go_enter Try.func21, Try.ntmps21
  go_wp2_with (go_at_call 31; refine HC.out.mono ?_; rintro e w1 ⟨v, rfl, hb, hown⟩; obtain ⟨A, cp, rfl⟩ := own_form hown; have HB := Hd.mk hb; have HO := Hd.mk hown; clear hb hown)
  have HN := Hd.mk hne
  have HAB := Hd.mk hab
  have HK := Hd.mk hk
  have HS := Hd.mk hs
  have hL0 : Lay w1 w1 p t t := ⟨h.below HB.out, hn, fun i hi => .inl hi, Only.refl _ _, id⟩
  have HP : Hd (p < w1.heap.size ∧ (∀ i ∈ t.blocks, i < w.heap.size) ∧ p < w.heap.size ∧ U.AllR rs) := ⟨⟨by have := h.blk.lt; have := HB.out.size; omega, h.tree.lt, h.blk.lt, hr⟩⟩
  have hkb : k ≤ 1000000 := by have := cb_runes t; rw [hab, cb_append] at this; omega
  have HKB : Hd (cb a + bl rs ≤ 1000000) := ⟨by have := cb_runes t; rw [hab, cb_append] at this; omega⟩
  have HL0 := Hd.mk hL0
  clear h hn hne hab hk hr hs hL0
  go_loopw [1, 11] (fun kv i wr => ∃ (j : Nat) (t' : RT), j ≤ (cutR rs).length ∧ i = .int .i64 j ∧ kv = .int .i64 ((k + cb ((cutR rs).take j) : Nat) : Int) ∧ t'.chunks = a ++ (cutR rs).take j ++ b ∧ Lay w1 wr p t t') (fun _ i _ => (cutR rs).length - (intOf i).toNat)
  case atStart => exact ⟨0, t, Nat.zero_le _, rfl, rfl, by simpa using HAB.out, HL0.out⟩
  case round =>
    obtain ⟨j, t', hj, rfl, rfl, hch, hL⟩ := hrel
    by_cases hlt : j < (cutR rs).length
    · have hlt' : (j : Int) < ((cutR rs).length : Int) := by omega
      have hrow := own_only HO.out hL.only (fun i e hS => by
        have := (HO.out.lt i e).1
        rcases hS with rfl | hS
        · have := HP.out.2.2.1; omega
        · have := HP.out.2.1 i hS; omega)
      obtain ⟨ad, c', u, hv, hadl, hu, hcell⟩ := (Sl.of_own hrow).at_ hlt
      cases hv
      have hu2 : u = .string ⟨(U.encs (cutR rs)[j]).toArray⟩ := by
        unfold cstr at hu
        rw [List.getElem?_map, List.getElem?_eq_getElem hlt] at hu
        simpa using hu.symm
      subst hu2
      have HM := Hd.mk (cutR_mem (List.getElem_mem hlt))
      have HTK : Hd ((cutR rs).take (j + 1) = (cutR rs).take j ++ [(cutR rs)[j]]) := ⟨List.take_succ_eq_append_getElem hlt⟩
      have HRC : Hd (U.AllR (cutR rs)[j]) := ⟨fun x hx => HP.out.2.2.2 x (by rw [← cutR_flatten rs]; exact List.mem_flatten.2 ⟨_, List.getElem_mem hlt, hx⟩)⟩
      have hsum : cb ((cutR rs).take j) + bl (cutR rs)[j] ≤ bl rs := by
        have e : bl rs = cb (cutR rs) := by rw [cb, cutR_flatten]
        have e2 : cutR rs = (cutR rs).take (j + 1) ++ (cutR rs).drop (j + 1) := (List.take_append_drop _ _).symm
        rw [e]; conv => rhs; rw [e2]
        rw [HTK.out, cb_append, cb_append, cb_cons, cb_nil]; omega
      have hkb2 := HKB.out
      have hkk := HK.out
      have hnt : Ne t'.chunks := by
        rw [hch]
        have := HN.out; rw [HAB.out] at this
        exact (this.l.app (fun x hx => cutR_ne rs x (List.mem_of_mem_take hx))).app this.r
      have hsz : bl t'.runes + bl (cutR rs)[j] ≤ 1000000 := by
        have := cb_runes t'
        rw [hch, cb_append, cb_append] at this
        have h2 := cb_runes t
        rw [HAB.out, cb_append] at h2
        have := HS.out
        omega
      have HKJ : Hd (cb (a ++ (cutR rs).take j) = k + cb ((cutR rs).take j)) := ⟨by rw [cb_append]; omega⟩
      have HKJ2 : Hd (k + cb ((cutR rs).take (j + 1)) = k + cb ((cutR rs).take j) + bl (cutR rs)[j]) := ⟨by rw [HTK.out, cb_append, cb_cons, cb_nil]; omega⟩
      have HL := Hd.mk hL
      have HCH := Hd.mk hch
      have HNT := Hd.mk hnt
      have HSZ := Hd.mk hsz
      obtain ⟨kj, hkj⟩ : ∃ x, x = k + cb ((cutR rs).take j) := ⟨_, rfl⟩
      rw [← hkj] at HKJ HKJ2
      have hkjb : kj ≤ 1000000 := by omega
      have hcb : bl (cutR rs)[j] ≤ 32 := HM.out.2
      rw [← hkj]
      have HLC : Hd ((U.encs (cutR rs)[j]).length = bl (cutR rs)[j]) := ⟨rfl⟩
      have hlc : (U.encs (cutR rs)[j]).length ≤ 32 := HM.out.2
      have hjb : j ≤ 1000000 := by have h1 := ne_len (cutR_ne rs); have h2 := bl_len rs; rw [cutR_flatten] at h1; omega
      generalize (cutR rs)[j] = c at *
      have c0 := hL.at_.blk.cell 0
      have cf := hL.at_.blk.frozen
      have cl := hL.at_.blk.lt
      simp only [List.getElem?_toArray, List.getElem?_cons_zero, RT.ptr] at c0
      clear hL hch hnt hsz hrow hu hsum hkb2 hkk hkj hkb hj
      go_wp2_with fail
      go_region_with (first
        | (go_at_call 33; refine (leaf_calls (rs := c) HRC.out (by omega) _).mono ?_; rintro e w2 ⟨g, he, hgs, hat, hb2'⟩; have hb2 := undrew hb2'; clear hb2'; rw [RT.ptr_node] at he; obtain rfl := he; have hp2 := HL.out.at_.blk.below hb2 HL.out.at_.blk.lt; have c0 := hp2.cell 0; have cf := hp2.frozen; have cl := hp2.lt; simp only [List.getElem?_toArray, List.getElem?_cons_zero, RT.ptr] at c0; have HB2 := Hd.mk hb2; have HGS := Hd.mk hgs; have HAT := Hd.mk hat; have HAPN := Hd.mk (ap_leaf HL.out.nodup (fun e => by have := HL.out.at_.tree.lt g e; simp at hgs; omega) HNT.out HSZ.out); clear hp2 hb2 hgs hat)
        | (go_at_call 32; refine (add_calls (x := .node g c .nil .nil) (t := t') (k := kj) HAT.out (HL.out.at_.tree.below HB2.out) HNT.out HAPN.out (by obtain ⟨na, nb, e1, e2, e3⟩ := nodes_split HCH.out; exact ⟨na, nb, e1, by rw [flat_cb, e2]; exact HKJ.out⟩)).mono ?_; rintro e w3 ⟨he, ht3, ho3⟩; rw [RT.ptr] at he; obtain rfl := he; have HT3 := Hd.mk ht3; have HO3 := Hd.mk ho3; have hp3 := (HL.out.at_.blk.below HB2.out HL.out.at_.blk.lt).only ho3 (fun e => e.elim HL.out.at_.out (fun e => by have := HL.out.at_.blk.lt; have := HGS.out; simp at e this; omega)); have c0 := hp3.cell 0; have cf := hp3.frozen; have cl := hp3.lt; simp only [List.getElem?_toArray, List.getElem?_cons_zero, RT.ptr] at c0; clear hp3 ht3 ho3))
      all_goals
        have hmore := HL.out.more HB2.out (HGS.out : wr.heap.size ≤ g) HNT.out HCH.out HKJ.out HAPN.out HT3.out HO3.out HP.out.1
        have hch2 := addT_chunks (x := .node g c .nil .nil) HNT.out HCH.out HKJ.out
        have HCH2 := Hd.mk hch2
        rw [RT.ptr] at hmore
        have HMORE := Hd.mk hmore
        clear hmore hch2 c0 cf cl
        generalize (w3.setCell ⟨p, 0, none⟩ (.pointer (RT.addT (.node g c .nil .nil) t' kj).pa)) = wz at HMORE ⊢
        go_wp2_with fail
        refine ⟨⟨j + 1, RT.addT (.node g c .nil .nil) t' kj, by omega, by go_num, by rw [HKJ2.out] <;> congr 1, ?_, HMORE.out⟩, by simp only [intOf]; omega⟩
        rw [HCH2.out, HTK.out]
        simp
    · obtain rfl : j = (cutR rs).length := by omega
      have HL := Hd.mk hL
      have HCH := Hd.mk hch
      clear hL hch
      go_wp2_with fail
      go_end0
      refine ⟨rfl, t', ?_, ⟨HL.out.at_, HL.out.nodup, fun i hi => (HL.out.sub i hi).imp id (fun h => Nat.le_trans HB.out.size h), (Only.of_below HB.out).trans HL.out.only, HL.out.bal⟩⟩
      have := HCH.out
      rwa [List.take_length] at this
end Go.Proofs.Ytgokmldngnmmhaa
