/- turnRight, turnLeft, level. -/
import Derived.Test.YtdgdajnbkfmijaaGreatDoorMServerPlays17
import Derived.BigQuiet
import Derived.Deep.QuietTactic
import Derived.Deep.DrawnRows
namespace Go.Proofs.YtdgdajnbkfmijaaGreatDoor
open Go.RowKit
set_option maxRecDepth 100000
namespace RT
def rotR (g : Nat) (rs : List Int) : RT → RT → RT
  | node gx rx xl xr, r => node gx rx xl (node g rs xr r)
  | nil, r => node g rs nil r
def rotL (g : Nat) (rs : List Int) : RT → RT → RT
  | l, node gx rx xl xr => node gx rx (node g rs l xl) xr
  | l, nil => node g rs l nil
def fixL : RT → RT
  | node g rs l r => if l.high < r.high then rotL g rs l r else node g rs l r
  | nil => nil
def fixR : RT → RT
  | node g rs l r => if r.high < l.high then rotR g rs l r else node g rs l r
  | nil => nil
/-- A node made level. -/
def lvl (g : Nat) (rs : List Int) (l r : RT) : RT :=
  if r.high + 1 < l.high then rotR g rs l.fixL r else if l.high + 1 < r.high then rotL g rs l r.fixR else node g rs l r
theorem nodes_rotR (g : Nat) (rs : List Int) (l r : RT) : (rotR g rs l r).nodes = l.nodes ++ (g, rs) :: r.nodes := by
  cases l <;> simp [rotR]
theorem nodes_rotL (g : Nat) (rs : List Int) (l r : RT) : (rotL g rs l r).nodes = l.nodes ++ (g, rs) :: r.nodes := by
  cases r <;> simp [rotL]
theorem nodes_fixL (l : RT) : l.fixL.nodes = l.nodes := by
  cases l with
  | nil => rfl
  | node g rs a b => show (if a.high < b.high then rotL g rs a b else node g rs a b).nodes = _; split <;> simp [nodes_rotL]
theorem nodes_fixR (l : RT) : l.fixR.nodes = l.nodes := by
  cases l with
  | nil => rfl
  | node g rs a b => show (if b.high < a.high then rotR g rs a b else node g rs a b).nodes = _; split <;> simp [nodes_rotR]
theorem nodes_lvl (g : Nat) (rs : List Int) (l r : RT) : (lvl g rs l r).nodes = l.nodes ++ (g, rs) :: r.nodes := by
  unfold lvl
  split
  · rw [nodes_rotR, nodes_fixL]
  · split
    · rw [nodes_rotL, nodes_fixR]
    · rfl
theorem runes_of_nodes {t u : RT} (h : t.nodes = u.nodes) : t.runes = u.runes := by rw [runes_nodes, runes_nodes, h]
theorem blocks_of_nodes {t u : RT} (h : t.nodes = u.nodes) : t.blocks = u.blocks := by unfold blocks; rw [h]
theorem runes_fixL (l : RT) : l.fixL.runes = l.runes := runes_of_nodes (nodes_fixL l)
theorem runes_fixR (l : RT) : l.fixR.runes = l.runes := runes_of_nodes (nodes_fixR l)
end RT
/-- The blocks of a tree lie apart; it is small. -/
structure Ap (t : RT) : Prop where
  nodup : t.blocks.Nodup
  sm : Sm t.runes t.nodes.length
theorem Ap.of_nodes {t u : RT} (h : Ap t) (e : u.nodes = t.nodes) : Ap u := ⟨by rw [RT.blocks_of_nodes e]; exact h.nodup, by rw [RT.runes_of_nodes e, e]; exact h.sm⟩
theorem Sm.le {rs rs' : List Int} {n n' : Nat} (h : Sm rs n) (h1 : rs'.length ≤ rs.length) (h2 : n' ≤ n) : Sm rs' n' := ⟨Nat.le_trans h1 h.len, Nat.le_trans h2 h.many⟩
section
variable {g : Nat} {rs : List Int} {l r : RT}
theorem Ap.onL (h : Ap (.node g rs l r)) : Ap l := ⟨by have := h.nodup; simp only [RT.blocks_node] at this; exact (List.nodup_append.1 this).1, h.sm.le (by simp only [RT.runes_node, List.length_append]; omega) (by simp only [RT.nodes_node, List.length_append, List.length_cons]; omega)⟩
theorem Ap.onR (h : Ap (.node g rs l r)) : Ap r := ⟨by have := h.nodup; simp only [RT.blocks_node] at this; exact (List.nodup_cons.1 (List.nodup_append.1 this).2.1).2, h.sm.le (by simp only [RT.runes_node, List.length_append]; omega) (by simp only [RT.nodes_node, List.length_append, List.length_cons]; omega)⟩
theorem Ap.nl (h : Ap (.node g rs l r)) : g ∉ l.blocks := fun hg => by
  have := h.nodup; simp only [RT.blocks_node] at this
  exact (List.nodup_append.1 this).2.2 g hg g (by simp) rfl
theorem Ap.nr (h : Ap (.node g rs l r)) : g ∉ r.blocks := by
  have := h.nodup; simp only [RT.blocks_node] at this
  exact (List.nodup_cons.1 (List.nodup_append.1 this).2.1).1
theorem Ap.lr (h : Ap (.node g rs l r)) : ∀ b ∈ l.blocks, b ∉ r.blocks := fun b hb hb' => by
  have := h.nodup; simp only [RT.blocks_node] at this
  exact (List.nodup_append.1 this).2.2 b hb b (by simp [hb']) rfl
theorem Ap.fit (h : Ap (.node g rs l r)) : Sm (l.runes ++ rs ++ r.runes) (l.nodes.length + r.nodes.length) := h.sm.le (by simp only [RT.runes_node, List.length_append]; omega) (by simp only [RT.nodes_node, List.length_append, List.length_cons]; omega)
end
theorem node_left {w : World} {g : Nat} {rs : List Int} {all : Cn} {l r l' : Value} {h : Int} (hb : Blk w g 189 (nodeV rs all l r h)) : Blk (w.setCell ⟨g, 9, none⟩ l') g 189 (nodeV rs all l' r h) := hb.set_ 9 l'
theorem node_right {w : World} {g : Nat} {rs : List Int} {all : Cn} {l r r' : Value} {h : Int} (hb : Blk w g 189 (nodeV rs all l r h)) : Blk (w.setCell ⟨g, 10, none⟩ r') g 189 (nodeV rs all l r' h) := hb.set_ 10 r'
set_option maxHeartbeats 1000000 in
theorem turnRight_calls {g gx : Nat} {rs rx : List Int} {xl xr r : RT} {w : World} (h : RawT w g rs (.node gx rx xl xr) r) (hd : Ap (.node g rs (.node gx rx xl xr) r)) :
    Calls Tryz.prog 172 #[.pointer (some ⟨g, 0, none⟩)] w fun e w' => e = .returned (.pointer (some ⟨gx, 0, none⟩)) ∧ AtT w' (.node gx rx xl (.node g rs xr r)) ∧ Only (fun k => k = g ∨ k = gx) w w' := by
  obtain ⟨⟨c, m, hblk⟩, ⟨hx, hxl, hxr⟩, hr⟩ := h
  have hne : gx ≠ g := fun e => hd.nl (by simp [e])
  obtain ⟨-, -, -, -, -, -, -, -, -, a9, a10, -⟩ := nodeV_cell hblk
  obtain ⟨-, -, -, -, -, -, -, -, -, b9, b10, -⟩ := nodeV_cell hx
  have af := hblk.frozen
  have bf := hx.frozen
  have al := hblk.lt
  have bl := hx.lt
  have HR : Hd (AtT ((w.setCell ⟨g, 9, none⟩ xr.ptr).setCell ⟨gx, 10, none⟩ (.pointer (some ⟨g, 0, none⟩))) xl ∧ RawT ((w.setCell ⟨g, 9, none⟩ xr.ptr).setCell ⟨gx, 10, none⟩ (.pointer (some ⟨g, 0, none⟩))) g rs xr r ∧
      (∃ all h, Blk ((w.setCell ⟨g, 9, none⟩ xr.ptr).setCell ⟨gx, 10, none⟩ (.pointer (some ⟨g, 0, none⟩))) gx 189 (nodeV rx all xl.ptr (.pointer (some ⟨g, 0, none⟩)) h)) ∧
      Only (fun k => k = g ∨ k = gx) w ((w.setCell ⟨g, 9, none⟩ xr.ptr).setCell ⟨gx, 10, none⟩ (.pointer (some ⟨g, 0, none⟩)))) := by
    have ho : Only (fun k => k = g ∨ k = gx) w ((w.setCell ⟨g, 9, none⟩ xr.ptr).setCell ⟨gx, 10, none⟩ (.pointer (some ⟨g, 0, none⟩))) :=
      ((Only.refl _ w).setCell (p := ⟨g, 9, none⟩) (.inl (.inl rfl)) _).setCell (p := ⟨gx, 10, none⟩) (.inl (.inr rfl)) _
    have ns : ∀ t : RT, g ∉ t.blocks → gx ∉ t.blocks → ∀ b ∈ t.blocks, ¬ (b = g ∨ b = gx) := by
      rintro t h1 h2 b hb (rfl | rfl)
      · exact h1 hb
      · exact h2 hb
    have n1 : g ∉ xl.blocks := fun e => hd.nl (by simp [e])
    have n2 : g ∉ xr.blocks := fun e => hd.nl (by simp [e])
    exact ⟨⟨hxl.only ho (ns _ n1 hd.onL.nl), ⟨⟨c, m, (node_left hblk).far (p := ⟨gx, 10, none⟩) (Ne.symm hne) _⟩, hxr.only ho (ns _ n2 hd.onL.nr), hr.only ho (ns _ hd.nr (hd.lr gx (by simp)))⟩,
      ⟨_, _, node_right (hx.far (p := ⟨g, 9, none⟩) hne _)⟩, ho⟩⟩
  have HA : Hd (Ap (.node gx rx xl (.node g rs xr r))) := ⟨hd.of_nodes (by simp)⟩
  have HNE := Hd.mk hne
  have HG : Hd (g ∉ xr.blocks ∧ g ∉ xl.blocks ∧ g ∉ r.blocks ∧ gx ∉ r.blocks) := ⟨⟨fun e => hd.nl (by simp [e]), fun e => hd.nl (by simp [e]), hd.nr, hd.lr gx (by simp)⟩⟩
  have HF : Hd (Sm (xr.runes ++ rs ++ r.runes) (xr.nodes.length + r.nodes.length) ∧ True) := ⟨⟨HA.out.onR.fit, trivial⟩⟩
  clear hblk hx hxl hxr hr hd
  rw [RT.ptr_node] at a9
  simp only [RT.ptr] at a10 b9 b10 HR ⊢
  generalize xr.pa = pxr at *
  go_enter Tryz.func172, Tryz.ntmps172
  go_wp2_with (first
    | (go_at_call_of 160 (Value.pointer (some ⟨g, 0, none⟩)); refine (fit_calls HR.out.2.1 HG.out.1 HG.out.2.2.1 HF.out.1).mono ?_; rintro e w2 ⟨rfl, ht2, ho2⟩; have HT2 := Hd.mk ht2; have HO2 := Hd.mk ho2; clear ht2 ho2)
    | (go_at_call_of 160 (Value.pointer (some ⟨gx, 0, none⟩)); refine (fit_calls (l := xl) (r := .node g rs xr r) ⟨HR.out.2.2.1.elim fun a h => h.elim fun m h => ⟨a, m, h.only HO2.out HNE.out⟩, HR.out.1.only HO2.out (fun b hb e => HG.out.2.1 (e ▸ hb)), HT2.out⟩ HA.out.nl HA.out.nr HA.out.fit).mono ?_; rintro e w3 ⟨rfl, ht3, ho3⟩; have HT3 := Hd.mk ht3; have HO3 := Hd.mk ho3; clear ht3 ho3))
  go_ret
  exact ⟨rfl, HT3.out, (HR.out.2.2.2.trans (HO2.out.mono fun _ _ h => .inl h)).trans (HO3.out.mono fun _ _ h => .inr h)⟩
set_option maxHeartbeats 1000000 in
theorem turnLeft_calls {g gx : Nat} {rs rx : List Int} {l xl xr : RT} {w : World} (h : RawT w g rs l (.node gx rx xl xr)) (hd : Ap (.node g rs l (.node gx rx xl xr))) :
    Calls Tryz.prog 171 #[.pointer (some ⟨g, 0, none⟩)] w fun e w' => e = .returned (.pointer (some ⟨gx, 0, none⟩)) ∧ AtT w' (.node gx rx (.node g rs l xl) xr) ∧ Only (fun k => k = g ∨ k = gx) w w' := by
  obtain ⟨⟨c, m, hblk⟩, hl, hx, hxl, hxr⟩ := h
  have hne : gx ≠ g := fun e => hd.nr (by simp [e])
  obtain ⟨-, -, -, -, -, -, -, -, -, a9, a10, -⟩ := nodeV_cell hblk
  obtain ⟨-, -, -, -, -, -, -, -, -, b9, b10, -⟩ := nodeV_cell hx
  have af := hblk.frozen
  have bf := hx.frozen
  have al := hblk.lt
  have bl := hx.lt
  have n1 : g ∉ xl.blocks := fun e => hd.nr (by simp [e])
  have n2 : g ∉ xr.blocks := fun e => hd.nr (by simp [e])
  have n3 : gx ∉ l.blocks := fun e => hd.lr gx e (by simp)
  have HR : Hd (AtT ((w.setCell ⟨g, 10, none⟩ xl.ptr).setCell ⟨gx, 9, none⟩ (.pointer (some ⟨g, 0, none⟩))) xr ∧ RawT ((w.setCell ⟨g, 10, none⟩ xl.ptr).setCell ⟨gx, 9, none⟩ (.pointer (some ⟨g, 0, none⟩))) g rs l xl ∧
      (∃ all h, Blk ((w.setCell ⟨g, 10, none⟩ xl.ptr).setCell ⟨gx, 9, none⟩ (.pointer (some ⟨g, 0, none⟩))) gx 189 (nodeV rx all (.pointer (some ⟨g, 0, none⟩)) xr.ptr h)) ∧
      Only (fun k => k = g ∨ k = gx) w ((w.setCell ⟨g, 10, none⟩ xl.ptr).setCell ⟨gx, 9, none⟩ (.pointer (some ⟨g, 0, none⟩)))) := by
    have ho : Only (fun k => k = g ∨ k = gx) w ((w.setCell ⟨g, 10, none⟩ xl.ptr).setCell ⟨gx, 9, none⟩ (.pointer (some ⟨g, 0, none⟩))) :=
      ((Only.refl _ w).setCell (p := ⟨g, 10, none⟩) (.inl (.inl rfl)) _).setCell (p := ⟨gx, 9, none⟩) (.inl (.inr rfl)) _
    have ns : ∀ t : RT, g ∉ t.blocks → gx ∉ t.blocks → ∀ b ∈ t.blocks, ¬ (b = g ∨ b = gx) := by
      rintro t h1 h2 b hb (rfl | rfl)
      · exact h1 hb
      · exact h2 hb
    exact ⟨⟨hxr.only ho (ns _ n2 hd.onR.nr), ⟨⟨c, m, (node_right hblk).far (p := ⟨gx, 9, none⟩) (Ne.symm hne) _⟩, hl.only ho (ns _ hd.nl n3), hxl.only ho (ns _ n1 hd.onR.nl)⟩,
      ⟨_, _, node_left (hx.far (p := ⟨g, 10, none⟩) hne _)⟩, ho⟩⟩
  have HA : Hd (Ap (.node gx rx (.node g rs l xl) xr)) := ⟨hd.of_nodes (by simp)⟩
  have HNE := Hd.mk hne
  have HG : Hd (g ∉ l.blocks ∧ g ∉ xl.blocks ∧ g ∉ xr.blocks) := ⟨⟨hd.nl, n1, n2⟩⟩
  have HF : Hd (Sm (l.runes ++ rs ++ xl.runes) (l.nodes.length + xl.nodes.length) ∧ True) := ⟨⟨HA.out.onL.fit, trivial⟩⟩
  clear hblk hx hxl hxr hl hd n1 n2 n3
  rw [RT.ptr_node] at a10
  simp only [RT.ptr] at a9 b9 b10 HR ⊢
  generalize xl.pa = pxl at *
  go_enter Tryz.func171, Tryz.ntmps171
  go_wp2_with (first
    | (go_at_call_of 160 (Value.pointer (some ⟨g, 0, none⟩)); refine (fit_calls HR.out.2.1 HG.out.1 HG.out.2.1 HF.out.1).mono ?_; rintro e w2 ⟨rfl, ht2, ho2⟩; have HT2 := Hd.mk ht2; have HO2 := Hd.mk ho2; clear ht2 ho2)
    | (go_at_call_of 160 (Value.pointer (some ⟨gx, 0, none⟩)); refine (fit_calls (l := .node g rs l xl) (r := xr) ⟨HR.out.2.2.1.elim fun a h => h.elim fun m h => ⟨a, m, h.only HO2.out HNE.out⟩, HT2.out, HR.out.1.only HO2.out (fun b hb e => HG.out.2.2 (e ▸ hb))⟩ HA.out.nl HA.out.nr HA.out.fit).mono ?_; rintro e w3 ⟨rfl, ht3, ho3⟩; have HT3 := Hd.mk ht3; have HO3 := Hd.mk ho3; clear ht3 ho3))
  go_ret
  exact ⟨rfl, HT3.out, (HR.out.2.2.2.trans (HO2.out.mono fun _ _ h => .inl h)).trans (HO3.out.mono fun _ _ h => .inr h)⟩
theorem AtT.drewN {w : World} {t : RT} (n : Nat) (h : AtT w t) : AtT (w.drewN n) t := h.below (ex_drewN n (Below.refl _ _))
theorem high_q {t : RT} {w : World} (h : AtT w t) : Calls Tryz.prog 170 #[t.ptr] w fun e w' => e = .returned (.int .i64 t.high) ∧ w' = w := by
  cases t with
  | nil =>
    rw [RT.ptr_nil]
    go_enter Tryz.func170, Tryz.ntmps170
    go_wp2_with fail
    go_ret
    exact ⟨rfl, rfl⟩
  | node g rs l r =>
    have hc := nodeV_cell h.1
    have hl := h.1.lt
    have h11 := hc.2.2.2.2.2.2.2.2.2.2.2
    rw [RT.ptr_node]
    simp only [RT.high_node]
    generalize (1 + max l.high r.high) = m at *
    clear hc h
    go_enter Tryz.func170, Tryz.ntmps170
    go_wp2_with fail
    go_ret
    exact ⟨rfl, rfl⟩
theorem raw_left {w : World} {g : Nat} {rs : List Int} {c : Cn} {lp : Value} {m : Int} {l r : RT} (h : Blk w g 189 (nodeV rs c lp r.ptr m)) (hl : AtT w l) (hr : AtT w r) (n1 : g ∉ l.blocks) (n2 : g ∉ r.blocks) : RawT (w.setCell ⟨g, 9, none⟩ l.ptr) g rs l r := by
  have ho : Only (fun k => k = g) w (w.setCell ⟨g, 9, none⟩ l.ptr) := (Only.refl (fun k => k = g) w).setCell (p := ⟨g, 9, none⟩) (.inl rfl) _
  exact ⟨⟨c, m, node_left h⟩, hl.only ho (fun b hb e => n1 (e ▸ hb)), hr.only ho (fun b hb e => n2 (e ▸ hb))⟩
theorem raw_right {w : World} {g : Nat} {rs : List Int} {c : Cn} {rp : Value} {m : Int} {l r : RT} (h : Blk w g 189 (nodeV rs c l.ptr rp m)) (hl : AtT w l) (hr : AtT w r) (n1 : g ∉ l.blocks) (n2 : g ∉ r.blocks) : RawT (w.setCell ⟨g, 10, none⟩ r.ptr) g rs l r := by
  have ho : Only (fun k => k = g) w (w.setCell ⟨g, 10, none⟩ r.ptr) := (Only.refl (fun k => k = g) w).setCell (p := ⟨g, 10, none⟩) (.inl rfl) _
  exact ⟨⟨c, m, node_right h⟩, hl.only ho (fun b hb e => n1 (e ▸ hb)), hr.only ho (fun b hb e => n2 (e ▸ hb))⟩
theorem only_set {S : Nat → Prop} {w w' : World} {g i : Nat} {v : Value} (h : Only S w w') (hg : S g) : Only S w (w'.setCell ⟨g, i, none⟩ v) := h.setCell (p := ⟨g, i, none⟩) (.inl hg) v
set_option maxHeartbeats 1000000 in
theorem level_calls {g : Nat} {rs : List Int} {l r : RT} {w : World} (h : RawT w g rs l r) (hd : Ap (.node g rs l r)) :
    Calls Tryz.prog 159 #[.pointer (some ⟨g, 0, none⟩)] w fun e w' => e = .returned (RT.lvl g rs l r).ptr ∧ AtT w' (RT.lvl g rs l r) ∧ Only (fun k => k ∈ (RT.node g rs l r).blocks) w w' := by
  have HF := Hd.mk (fit_calls h hd.nl hd.nr hd.fit)
  have HD := Hd.mk hd
  clear h hd
  go_enter Tryz.func159, Tryz.ntmps159
  go_wp2_with (go_at_call 160; refine HF.out.mono ?_; rintro e w1 ⟨rfl, ht, ho⟩; obtain ⟨-, -, -, -, -, -, -, -, -, a9, a10, -⟩ := nodeV_cell ht.1; have al := ht.1.lt; have af := ht.1.frozen; have HT := Hd.mk ht; have HO := Hd.mk ho; clear ht ho)
  go_quiet (first
    | (go_at_call_of 170 (RT.ptr l); exact Calls.quiet_of_same (high_q (HT.out.2.1.drewN _)))
    | (go_at_call_of 170 (RT.ptr r); exact Calls.quiet_of_same (high_q (HT.out.2.2.drewN _))))
  have hlh : l.high ≤ 1099511627776 := by have := l.high_le; have := HD.out.sm.many; simp only [RT.nodes_node, List.length_append, List.length_cons] at this; omega
  have hrh : r.high ≤ 1099511627776 := by have := r.high_le; have := HD.out.sm.many; simp only [RT.nodes_node, List.length_append, List.length_cons] at this; omega
  have HX := Hd.mk (HT.out.drewN nq)
  have HOX := Hd.mk (HO.out.drewN nq)
  clear a9 a10 al af
  generalize w1.drewN nq = wa at HX HOX ⊢
  clear HT HO w1
  obtain ⟨-, -, -, -, -, -, -, -, -, a9, a10, -⟩ := nodeV_cell HX.out.1
  have al := HX.out.1.lt
  have af := HX.out.1.frozen
  have hw : wrap64 ((l.high : Int) - (r.high : Int)) = (l.high : Int) - (r.high : Int) := by unfold wrap64; omega
  rw [hw]
  clear hw
  obtain ⟨d, hd⟩ : ∃ d : Int, d = (l.high : Int) - (r.high : Int) := ⟨_, rfl⟩
  rw [← hd]
  by_cases h1 : r.high + 1 < l.high
  · have HE : Hd (RT.lvl g rs l r = RT.rotR g rs l.fixL r) := ⟨by unfold RT.lvl; rw [if_pos h1]⟩
    have hd1 : (1 : Int) < d := by omega
    clear hd hlh hrh
    cases l with
    | nil => simp at h1
    | node gl rl ll lr =>
      clear h1
      rw [RT.ptr_node] at a9
      obtain ⟨-, -, -, -, -, -, -, -, -, b9, b10, -⟩ := nodeV_cell HX.out.2.1.1
      have bl := HX.out.2.1.1.lt
      have bf := HX.out.2.1.1.frozen
      go_wp2_with fail
      go_quiet (first
        | (go_at_call_of 170 (RT.ptr ll); exact Calls.quiet_of_same (high_q (HX.out.2.1.2.1.drewN _)))
        | (go_at_call_of 170 (RT.ptr lr); exact Calls.quiet_of_same (high_q (HX.out.2.1.2.2.drewN _))))
      have HX2 := Hd.mk (HX.out.drewN nq)
      have HOX2 := Hd.mk (HOX.out.drewN nq)
      clear a9 a10 al af b9 b10 bl bf
      generalize wa.drewN nq = wb at HX2 HOX2 ⊢
      clear HX HOX wa
      obtain ⟨-, -, -, -, -, -, -, -, -, a9, a10, -⟩ := nodeV_cell HX2.out.1
      have al := HX2.out.1.lt
      have af := HX2.out.1.frozen
      rw [RT.ptr_node] at a9
      by_cases h2 : ll.high < lr.high
      · have hd2 : (ll.high : Int) < (lr.high : Int) := by omega
        have HE2 : Hd ((RT.node gl rl ll lr).fixL = RT.rotL gl rl ll lr) := ⟨by show (if ll.high < lr.high then RT.rotL gl rl ll lr else _) = _; rw [if_pos h2]⟩
        cases lr with
        | nil => simp at h2
        | node gm rm ml mr =>
          clear h2
          go_wp2_with (first
            | (go_at_call 171; refine (turnLeft_calls (g := gl) (gx := gm) (rs := rl) (rx := rm) (l := ll) (xl := ml) (xr := mr) HX2.out.2.1.raw HD.out.onL).mono ?_; rintro e w2 ⟨rfl, ht2, ho2⟩; have hg2 := HX2.out.1.only ho2 (by rintro (rfl | rfl); exact HD.out.nl (by simp); exact HD.out.nl (by simp)); have hr2 := HX2.out.2.2.only ho2 (by rintro b hb (rfl | rfl); exact HD.out.lr _ (by simp) hb; exact HD.out.lr _ (by simp) hb); have al := hg2.lt; have af := hg2.frozen; obtain ⟨-, -, -, -, -, -, -, -, -, a9, a10, -⟩ := nodeV_cell hg2; have HG2 := Hd.mk hg2; have HR2 := Hd.mk hr2; have HT2 := Hd.mk ht2; have HO2 := Hd.mk ho2; clear hg2 hr2 ht2 ho2)
            | (go_at_call 172; refine (turnRight_calls (g := g) (gx := gm) (rs := rs) (rx := rm) (xl := .node gl rl ll ml) (xr := mr) (r := r) (raw_left HG2.out HT2.out HR2.out (fun e => HD.out.nl (by simpa using e)) HD.out.nr) (HD.out.of_nodes (by simp))).mono ?_; rintro e w3 ⟨rfl, ht3, ho3⟩; have HT3 := Hd.mk ht3; have HO3 := Hd.mk ho3; clear ht3 ho3))
          go_ret
          rw [HE.out, HE2.out]
          refine ⟨rfl, HT3.out, ((only_set ((HOX2.out.mono ?_).trans (HO2.out.mono ?_)) ?_).trans (HO3.out.mono ?_))⟩
          · rintro k - rfl; simp
          · rintro k - (rfl | rfl) <;> simp
          · simp
          · rintro k - (rfl | rfl) <;> simp
      · have hd2 : ¬ ((ll.high : Int) < (lr.high : Int)) := by omega
        have HE2 : Hd ((RT.node gl rl ll lr).fixL = RT.node gl rl ll lr) := ⟨by show (if ll.high < lr.high then RT.rotL gl rl ll lr else _) = _; rw [if_neg h2]⟩
        clear h2
        go_wp2_with (go_at_call 172; refine (turnRight_calls (g := g) (gx := gl) (rs := rs) (rx := rl) (xl := ll) (xr := lr) (r := r) HX2.out.raw HD.out).mono ?_; rintro e w3 ⟨rfl, ht3, ho3⟩; have HT3 := Hd.mk ht3; have HO3 := Hd.mk ho3; clear ht3 ho3)
        go_ret
        rw [HE.out, HE2.out]
        refine ⟨rfl, HT3.out, (HOX2.out.mono ?_).trans (HO3.out.mono ?_)⟩
        · rintro k - rfl; simp
        · rintro k - (rfl | rfl) <;> simp
  · by_cases h3 : l.high + 1 < r.high
    · have HE : Hd (RT.lvl g rs l r = RT.rotL g rs l r.fixR) := ⟨by unfold RT.lvl; rw [if_neg h1, if_pos h3]⟩
      have hd1 : ¬ ((1 : Int) < d) := by omega
      have hd3 : d < (-1 : Int) := by omega
      clear hd hlh hrh h1
      cases r with
      | nil => simp at h3
      | node gl rl ll lr =>
        clear h3
        rw [RT.ptr_node] at a10
        obtain ⟨-, -, -, -, -, -, -, -, -, b9, b10, -⟩ := nodeV_cell HX.out.2.2.1
        have bl := HX.out.2.2.1.lt
        have bf := HX.out.2.2.1.frozen
        go_wp2_with fail
        go_quiet (first
          | (go_at_call_of 170 (RT.ptr ll); exact Calls.quiet_of_same (high_q (HX.out.2.2.2.1.drewN _)))
          | (go_at_call_of 170 (RT.ptr lr); exact Calls.quiet_of_same (high_q (HX.out.2.2.2.2.drewN _))))
        have HX2 := Hd.mk (HX.out.drewN nq)
        have HOX2 := Hd.mk (HOX.out.drewN nq)
        clear a9 a10 al af b9 b10 bl bf
        generalize wa.drewN nq = wb at HX2 HOX2 ⊢
        clear HX HOX wa
        obtain ⟨-, -, -, -, -, -, -, -, -, a9, a10, -⟩ := nodeV_cell HX2.out.1
        have al := HX2.out.1.lt
        have af := HX2.out.1.frozen
        rw [RT.ptr_node] at a10
        by_cases h2 : lr.high < ll.high
        · have hd2 : (lr.high : Int) < (ll.high : Int) := by omega
          have HE2 : Hd ((RT.node gl rl ll lr).fixR = RT.rotR gl rl ll lr) := ⟨by show (if lr.high < ll.high then RT.rotR gl rl ll lr else _) = _; rw [if_pos h2]⟩
          cases ll with
          | nil => simp at h2
          | node gm rm ml mr =>
            clear h2
            go_wp2_with (first
              | (go_at_call 172; refine (turnRight_calls (g := gl) (gx := gm) (rs := rl) (rx := rm) (r := lr) (xl := ml) (xr := mr) HX2.out.2.2.raw HD.out.onR).mono ?_; rintro e w2 ⟨rfl, ht2, ho2⟩; have hg2 := HX2.out.1.only ho2 (by rintro (rfl | rfl); exact HD.out.nr (by simp); exact HD.out.nr (by simp)); have hr2 := HX2.out.2.1.only ho2 (by rintro b hb (rfl | rfl); exact HD.out.lr _ hb (by simp); exact HD.out.lr _ hb (by simp)); have al := hg2.lt; have af := hg2.frozen; obtain ⟨-, -, -, -, -, -, -, -, -, a9, a10, -⟩ := nodeV_cell hg2; have HG2 := Hd.mk hg2; have HR2 := Hd.mk hr2; have HT2 := Hd.mk ht2; have HO2 := Hd.mk ho2; clear hg2 hr2 ht2 ho2)
              | (go_at_call 171; refine (turnLeft_calls (g := g) (gx := gm) (rs := rs) (rx := rm) (l := l) (xl := ml) (xr := .node gl rl mr lr) (raw_right HG2.out HR2.out HT2.out HD.out.nl (fun e => HD.out.nr (by simpa using e))) (HD.out.of_nodes (by simp))).mono ?_; rintro e w3 ⟨rfl, ht3, ho3⟩; have HT3 := Hd.mk ht3; have HO3 := Hd.mk ho3; clear ht3 ho3))
            go_ret
            rw [HE.out, HE2.out]
            refine ⟨rfl, HT3.out, ((only_set ((HOX2.out.mono ?_).trans (HO2.out.mono ?_)) ?_).trans (HO3.out.mono ?_))⟩
            · rintro k - rfl; simp
            · rintro k - (rfl | rfl) <;> simp
            · simp
            · rintro k - (rfl | rfl) <;> simp
        · have hd2 : ¬ ((lr.high : Int) < (ll.high : Int)) := by omega
          have HE2 : Hd ((RT.node gl rl ll lr).fixR = RT.node gl rl ll lr) := ⟨by show (if lr.high < ll.high then RT.rotR gl rl ll lr else _) = _; rw [if_neg h2]⟩
          clear h2
          go_wp2_with (go_at_call 171; refine (turnLeft_calls (g := g) (gx := gl) (rs := rs) (rx := rl) (xl := ll) (xr := lr) (l := l) HX2.out.raw HD.out).mono ?_; rintro e w3 ⟨rfl, ht3, ho3⟩; have HT3 := Hd.mk ht3; have HO3 := Hd.mk ho3; clear ht3 ho3)
          go_ret
          rw [HE.out, HE2.out]
          refine ⟨rfl, HT3.out, (HOX2.out.mono ?_).trans (HO3.out.mono ?_)⟩
          · rintro k - rfl; simp
          · rintro k - (rfl | rfl) <;> simp
    · have HE : Hd (RT.lvl g rs l r = RT.node g rs l r) := ⟨by unfold RT.lvl; rw [if_neg h1, if_neg h3]⟩
      have hd1 : ¬ ((1 : Int) < d) := by omega
      have hd3 : ¬ (d < (-1 : Int)) := by omega
      clear hd hlh hrh h1 h3
      go_wp2_with fail
      go_ret
      rw [HE.out]
      refine ⟨rfl, HX.out, HOX.out.mono ?_⟩
      rintro k - rfl; simp
end Go.Proofs.YtdgdajnbkfmijaaGreatDoor
