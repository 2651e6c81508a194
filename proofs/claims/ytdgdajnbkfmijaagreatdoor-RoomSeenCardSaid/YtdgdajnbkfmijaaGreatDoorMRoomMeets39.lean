/- Several texts of the proof, one behind the other: PlH, RmN, RmO. -/
import Derived.Test.YtdgdajnbkfmijaaGreatDoorMRoomMeets38
import Derived.Test.YtdgdajnbkfmijaaGreatDoorMRoomMeets1
import Derived.Test.YtdgdajnbkfmijaaGreatDoorMRoomMeets34
import Derived.Test.YtdgdajnbkfmijaaGreatDoorMRoomMeets11
import Derived.Deep.RegionHeld3
/- shape.plays of []uint16. -/
namespace Go.Proofs.YtdgdajnbkfmijaaGreatDoor
open Go.RowKit
set_option maxRecDepth 100000
theorem el_H : El Tryz.prog 168 205 1 2 := El.mk' Tryz.underlying168 (by kernel_rfl) (by decide)
theorem one_H (R : List Int) : ∀ v ∈ u16s (U.hvs R), v.oneCell' = true := by
  intro v hv
  unfold u16s at hv
  obtain ⟨x, -, rfl⟩ := List.mem_map.1 hv
  rfl
theorem app_H (a b : List Int) : u16s (U.hvs (a ++ b)) = u16s (U.hvs a) ++ u16s (U.hvs b) := by rw [U.hvs_append]; unfold u16s; rw [List.map_append]
theorem len_H (R : List Int) : (u16s (U.hvs R)).length = (U.hvs R).length := by unfold u16s; rw [List.length_map]
theorem clip_H {n : Nat} {v : Value} {xs : List Value} {w : World} (h : Sl w 1 v n xs) : Calls Tryz.prog 152 #[v] w fun e w' => (∃ v', e = .returned v' ∧ Sl w 1 v' n xs ∧ ∀ B, Frs B v → Frs B v') ∧ w' = w := by
  have HS := Hd.mk h
  obtain ⟨A, c, rfl, h2, h3, h4, h4', h5⟩ := h
  have hz : A = none → n = 0 := fun e => by
    by_cases hn : 0 < n
    · obtain ⟨ad, e', -⟩ := h5 hn; rw [e] at e'; cases e'
    · omega
  have HF : Hd (Sl w 1 (.slice A n n) n xs ∧ ∀ B, Frs B (.slice A n c) → Frs B (.slice A n n)) := ⟨⟨A, n, rfl, h2, Nat.le_refl _, by omega, hz, h5⟩, fun B hB ad m c' e => by
    cases e
    exact hB _ _ _ rfl⟩
  unfold maxLen at h4
  clear h2 h4' h5 hz
  have hc : (n : Int) ≤ (c : Int) := by omega
  by_cases hn : n = 0
  · subst hn
    go_enter Tryz.func152, Tryz.ntmps152
    go_wp2_with fail
    go_ret
    exact ⟨⟨_, rfl, HF.out⟩, rfl⟩
  · go_enter Tryz.func152, Tryz.ntmps152
    go_wp2_with fail
    go_ret
    exact ⟨⟨_, rfl, by have := HF.out; simpa using this⟩, rfl⟩
def bad_H (R : List Int) (a : Nat) : Bool := hInner (U.hvs R) a
theorem n_H {R : List Int} (h : U.AllR R) : (cnt R).of 2 = ((U.hvs R).length : Nat) := by rw [cnt_full h]; rfl
theorem bad_iff_H {R : List Int} (h : U.AllR R) {a : Nat} (ha : a ≤ (U.hvs R).length) : bad_H R a = false ↔ ∃ p q, R = p ++ q ∧ (cnt p).of 2 = (a : Int) := by
  unfold bad_H
  rw [hInner_iff h ha]
  constructor
  · rintro ⟨p, q, e1, e2⟩
    exact ⟨p, q, e1, by rw [n_H (all_of_app (e1 ▸ h)).1, e2]⟩
  · rintro ⟨p, q, e1, e2⟩
    exact ⟨p, q, e1, by rw [n_H (all_of_app (e1 ▸ h)).1] at e2; omega⟩
theorem in_H {R : List Int} {v : Value} {n a : Nat} {w : World} (hsl : Sl w 1 v n (u16s (U.hvs R))) (hR : U.AllR R) (hn : n ≤ 1000000) (ha : a ≤ n) :
    Calls Tryz.prog 112 #[v, .int .i64 a] w fun e w' => e = .returned (.bool (bad_H R a)) ∧ w' = w := inH_calls hsl (U.hvs_in hR) hn ha
def PlPost_H (R : List Int) (l : List PT) (w : World) (e : Ending) (w' : World) : Prop :=
  Below w.heap.size w w' ∧ ((∃ v X, (tnF R 2 1 Cn.zero 0 l).2 = 0 ∧ OpR (tnF R 2 1 Cn.zero 0 l).1 X R ∧ e = .returned (.tuple #[v, .nilIface]) ∧ Sl w' 1 v (U.hvs (rap X R)).length (u16s (U.hvs (rap X R))) ∧ Frs w.heap.size v) ∨
    ((tnF R 2 1 Cn.zero 0 l).2 = 10 ∧ e = .returned (.tuple #[.slice none 0 0, errno 10])))
/-- A part of the document in units. -/
theorem seg_H {P d q R : List Int} {w : World} {b o n c a : Nat} (h : Sl w 1 (.slice (some ⟨b, o, none⟩) n c) n (u16s (U.hvs R))) (hR : R = P ++ (d ++ q)) (ha : (U.hvs P).length = a) : Sl w 1 (.slice (some ⟨b, o + a, none⟩) (U.hvs d).length (c - a)) (U.hvs d).length (u16s (U.hvs d)) ∧ Sl w 1 (.slice (some ⟨b, o + a, none⟩) 0 (c - a)) 0 [] := by
  have hn : (U.hvs R).length = n := by have := h.len; rw [len_H] at this; omega
  have e1 : u16s (U.hvs R) = u16s (U.hvs P) ++ (u16s (U.hvs d) ++ u16s (U.hvs q)) := by rw [hR, app_H, app_H]
  have e2 : (U.hvs R).length = (U.hvs P).length + ((U.hvs d).length + (U.hvs q).length) := by rw [← len_H, ← len_H, ← len_H, ← len_H, e1, List.length_append, List.length_append]
  have h1 := h.part1 (i := a) (m := (U.hvs d).length) (by omega)
  have h2 := h.part1 (i := a) (m := 0) (by omega)
  rw [e1, List.drop_left' (by rw [len_H, ha]), List.take_left' (len_H d)] at h1
  rw [List.take_zero] at h2
  exact ⟨h1, h2⟩
/-- A round's box, and what lies below. -/
structure PlS_H (w : World) (bx : Nat) (x y : Int) (z : ByteArray) (w' : World) : Prop where
  below : Below w.heap.size w w'
  box : Blk w' bx 113 #[.int .i64 x, .int .i64 y, .string z]
abbrev PlX_H (w : World) (bx : Nat) (x y : Int) (z : ByteArray) (w' : World) : Prop := PlS_H w bx x y z w' ∧ w'.cell? ⟨bx, 0, none⟩ = some (.int .i64 x) ∧ w'.cell? ⟨bx, 1, none⟩ = some (.int .i64 y) ∧ w'.cell? ⟨bx, 2, none⟩ = some (.string z)
theorem PlS_H.x {w w' : World} {bx : Nat} {x y : Int} {z : ByteArray} (h : PlS_H w bx x y z w') : PlX_H w bx x y z w' := by
  have z0 := h.box.cell 0
  have z1 := h.box.cell 1
  have z2 := h.box.cell 2
  simp only [List.getElem?_toArray, List.getElem?_cons_zero, List.getElem?_cons_succ] at z0 z1 z2
  exact ⟨h, z0, z1, z2⟩
theorem PlS_H.drew {w w' : World} {bx : Nat} {x y : Int} {z : ByteArray} (h : PlS_H w bx x y z w') : PlS_H w bx x y z w'.drew := ⟨ex_drew h.below, h.box⟩
theorem PlS_H.call {w w' w2 : World} {bx : Nat} {x y : Int} {z : ByteArray} (h : PlS_H w bx x y z w') (hb : Below w'.heap.size w' w2) : PlS_H w bx x y z w2 := ⟨bstep h.below hb, h.box.below hb h.box.lt⟩
theorem PlS_H.app {w w' w2 : World} {bx : Nat} {x y : Int} {z : ByteArray} {v : Value} (h : PlS_H w bx x y z w') (hb : Below w.heap.size w' w2) (hg : w'.grownBy w2 v.ownBlock) (hv : v.ownBlock ≠ some bx) : PlS_H w bx x y z w2 :=
  ⟨h.below.trans hb, h.box.only (Only.of_grown hg) (fun e => hv e.symm)⟩
theorem nlen_H {R P d q : List Int} {a x : Nat} (hA : U.AllR R) (hR : R = P ++ (d ++ q)) (ha : (U.hvs P).length = a) (hd : (cnt d).of 2 = (x : Int)) : (U.hvs (P ++ d)).length = a + x := by
  have h : U.AllR ((P ++ d) ++ q) := by rw [List.append_assoc, ← hR]; exact hA
  have h1 := n_H (all_of_app h).1
  have h2 := n_H (all_of_app (all_of_app h).1).1
  rw [cnt_app_of, h2, hd, ha] at h1
  omega
theorem nd_H {R P d q : List Int} {x : Nat} (hA : U.AllR R) (hR : R = P ++ (d ++ q)) (hd : (cnt d).of 2 = (x : Int)) : (U.hvs d).length = x := by
  have h : U.AllR (P ++ (d ++ q)) := hR ▸ hA
  have h1 := n_H (all_of_app (all_of_app h).2).1
  rw [hd] at h1
  omega
section
attribute [local go_sem] add_mk
set_option maxHeartbeats 16000000 in
theorem plays_H {R : List Int} {l : List PT} {v1 v2 : Value} {n1 n2 : Nat} {w : World} (hR : U.AllR R) (hbl : bl R ≤ 8000) (hs1 : Sl w 1 v1 n1 (u16s (U.hvs R))) (hs2 : Sl w 3 v2 n2 (opv l)) (hg : ∀ p ∈ l, p.Good) (hw : was l = (cnt R).of 2) (hpl : plen l ≤ 100000) (hn : n2 ≤ 100000) :
    Calls Tryz.prog 109 #[v1, v2, .func (.func 110) #[] #[], .func (.func 112) #[] #[]] w (PlPost_H R l w) := by
  have hln : l.length = n2 := by have := hs2.len; rw [opv_length] at this; omega
  have HS1 := Hd.mk hs1
  have HS2 := Hd.mk hs2
  have HG := Hd.mk hg
  have HA := Hd.mk hR
  have HBL := Hd.mk hbl
  have HLN := Hd.mk hln
  have HPL := Hd.mk hpl
  obtain ⟨A1, c1, rfl, -, hq3, hq4, hq5, hq6⟩ := hs1
  unfold maxLen at hq4
  have HQ6 := Hd.mk hq6
  clear hq6
  have HN1 : Hd ((U.hvs R).length = n1) := ⟨by have := HS1.out.len; rw [len_H] at this; omega⟩
  have HST := Hd.mk (PlI.start hw)
  obtain ⟨A2, c2, rfl, -⟩ := hs2
  clear hR hbl hg hw hpl
  go_enter Tryz.func109, Tryz.ntmps109
  go_wp2_with fail
  go_loopw [10, 11, 17] (fun out av iv wr => ∃ (k a : Nat) (P Q T : List Int), iv = .int .i64 (k : Int) ∧ av = .int .i64 (a : Int) ∧ (U.hvs P).length = a ∧ wr.ownsRow w.heap.size 205 1 out (U.hvs T).length (u16s (U.hvs T)) ∧ Below w.heap.size w wr ∧ PlI R 2 l k P Q T) (fun _ _ iv _ => n2 - (intOf iv).toNat)
  case atStart => exact ⟨0, 0, [], R, [], rfl, rfl, rfl, World.ownsRow_nil _ _ _ _, Below.refl _ _, HST.out⟩
  case round =>
    obtain ⟨k, a, P, Q, T, rfl, rfl, hap, hown, hbel, hI⟩ := hrel
    have HB := Hd.mk hbel
    have HOW := Hd.mk hown
    have HI := Hd.mk hI
    obtain ⟨Ao, co, rfl⟩ := own_form hown
    have hsz := hbel.size
    have hkle : k ≤ n2 := by have := hI.k_le; have := HLN.out; omega
    have hRP : R = P ++ Q := hI.eq
    have hallP : U.AllR P := (all_of_app (hRP ▸ HA.out)).1
    have hofP : (cnt P).of 2 = (a : Int) := by rw [n_H hallP, hap]
    have haR : a ≤ n1 := by
      have h1 := HN1.out
      have h2 : u16s (U.hvs R) = u16s (U.hvs P) ++ u16s (U.hvs Q) := by rw [hRP, app_H]
      have h3 := congrArg List.length h2
      rw [List.length_append, len_H, len_H, len_H] at h3
      omega
    have hn1 : n1 ≤ 40000 := by
      have h1 := n_H HA.out
      have h2 := of_le (rs := R) (n := bl R) (bl_len R) 2
      have := HBL.out
      have := HN1.out
      omega
    by_cases hkn : k < n2
    · have hkl : k < l.length := by have := HLN.out; omega
      obtain ⟨b0, o0, c0, hv, hlt, y0, y1, y2⟩ := (HS2.out.below hbel).part hkn hkl
      cases hv
      have hgk := HG.out _ (List.getElem_mem hkl)
      obtain ⟨rs, hsp⟩ := hgk.2
      have hput : l[k].put = U.encs rs := by have := hsp.eq; rwa [List.append_nil] at this
      have hal := hsp.all
      have hrsl : bl rs ≤ 100000 := by
        have h1 := plen_mem' (List.getElem_mem hkl)
        have h2 := HPL.out
        have h3 : (U.encs rs).length = bl rs := rfl
        rw [hput] at h1
        omega
      have HRS := Hd.mk (And.intro hal hrsl)
      have hTl : bl T ≤ 108000 := by
        have h1 := hI.siz
        have h2 := HPL.out
        have h3 := HBL.out
        have h4 : bl P ≤ bl R := by rw [hRP, bl_append]; omega
        omega
      have hTn : (U.hvs T).length ≤ 432000 := by
        have h2 := bl_len T
        have h3 := U.hvs_len_le T
        omega
      have HTN := Hd.mk hTn
      obtain ⟨x, hx⟩ : ∃ x : Nat, (x : Int) = l[k].keep + l[k].drop := ⟨(l[k].keep + l[k].drop).toNat, by have := hgk.1.2; omega⟩
      have hxr : a + x ≤ n1 := by
        have h1 := hI.rest
        rw [tn_drop hkl, was] at h1
        have h2 := was_nn fun p hp => (HG.out p (List.mem_of_mem_drop (i := k + 1) hp)).1
        have h3 : (cnt R).of 2 = (cnt P).of 2 + (cnt Q).of 2 := by rw [hRP, cnt_app_of]
        have h4 := n_H HA.out
        have h5 := HN1.out
        omega
      have HBADP : Hd (bad_H R a = false) := ⟨(bad_iff_H HA.out (by have := HN1.out; omega)).2 ⟨P, Q, hRP, hofP⟩⟩
      have HSTOP : Hd (bad_H R (a + x) = true → (tnF R 2 1 Cn.zero 0 l).2 = 10) := ⟨fun hb => HI.out.stop (by decide) HG.out hkl (fun d q e e2 => by
        have : bad_H R (a + x) = false := (bad_iff_H HA.out (by have := HN1.out; omega)).2 ⟨P ++ d, q, by rw [HI.out.eq, e, List.append_assoc], by rw [cnt_app_of, hofP, e2]; omega⟩
        rw [this] at hb; cases hb)⟩
      have HGO : Hd (bad_H R (a + x) = false → ∃ d q, R = P ++ (d ++ q) ∧ (cnt d).of 2 = x ∧ PlI R 2 l (k + 1) (P ++ d) q (T ++ (kept l[k] d ++ rs))) := ⟨fun hb => by
        obtain ⟨p, q, e1, e2⟩ := (bad_iff_H HA.out (by have := HN1.out; omega)).1 hb
        obtain ⟨d, q', rfl, -, e4⟩ := pl_behind (u := 2) (a := (a : Int)) (n := (x : Int)) (P := P) (Q := Q) (c := cnt p) hofP (by omega) (by decide) ⟨p, q, by rw [← hRP]; exact e1, by rw [e2]; omega, rfl⟩
        exact ⟨d, q', hRP, e4, HI.out.step (by decide) HG.out hkl (by rw [e4, hx]) hput hal⟩⟩
      have harg := hgk.1
      have HAP := Hd.mk hap
      clear hown hbel hI HI hRP hallP hofP hgk hsp hal hrsl hTl hTn hap
      generalize l[k] = p at *
      rcases harg.cases with ⟨b, hb, rfl⟩ | ⟨d9, hd9, rfl⟩ | ⟨d9, hd9, rfl⟩
      · subst hput
        obtain rfl : x = 0 := by dsimp only at hx; omega
        dsimp only at y0 y1 y2 hx
        have HPB : Hd (PlS_H w wr.heap.size 0 0 ⟨(U.encs rs).toArray⟩ (wr.alloc (.cells #[.int .i64 0, .int .i64 0, .string ⟨(U.encs rs).toArray⟩] 113))) := ⟨⟨ex_alloc HB.out _, Blk.new _ _ _⟩⟩
        have HOWB := Hd.mk (HOW.out.alloc (.cells #[.int .i64 0, .int .i64 0, .string ⟨(U.encs rs).toArray⟩] 113))
        have HOB : Hd ((Value.slice Ao (U.hvs T).length co).ownBlock ≠ some wr.heap.size) := ⟨fun e => by have := (HOW.out.lt _ e).2; omega⟩
        have hbad : bad_H R (a + 0) = false := HBADP.out
        obtain ⟨d, q, HRE, HDX, HNX⟩ := HGO.out hbad
        have HNEXT : Hd ((U.hvs (P ++ d)).length = a ∧ PlI R 2 l (k + 1) (P ++ d) q (T ++ rs)) := ⟨nlen_H HA.out HRE HAP.out HDX, by have h := HNX; unfold kept at h; rw [if_neg (by dsimp only; omega)] at h; exact h⟩
        clear HRE HDX HNX hbad harg
        have hw1 : IntKind.i64.wrap ((a : Int) + 0) = (a : Int) := by rw [IntKind.wrap_i64] <;> omega
        have hac : (a : Int) ≤ (c1 : Int) := by omega
        have hw2 : IntKind.i64.wrap (a : Int) = (a : Int) := by rw [IntKind.wrap_i64] <;> omega
        go_wp2_with (go_at_call 112; refine (in_H (HS1.out.below (ex_alloc HB.out _)) HA.out (by omega) haR).mono ?_; rintro e w5 ⟨rfl, rfl⟩; rw [HBADP.out])
        generalize wr.alloc (.cells #[.int .i64 0, .int .i64 0, .string ⟨(U.encs rs).toArray⟩] 113) = wb at HPB HOWB ⊢
        generalize wr.heap.size = bx at HPB HOB ⊢
        have hx0 := HPB.out.drew.x
        have HPUT := Hd.mk (fun W => putH_calls HRS.out.1 W (by have := HRS.out.2; omega))
        have HB63 : Hd ((U.hvs T).length + (U.hvs rs).length ≤ maxLen ∧ ((U.hvs T).length + (U.hvs rs).length) * 2 ≤ 140737488355328) := ⟨by
          have h1 := HTN.out
          have h2 : (U.hvs rs).length ≤ 400000 := by have h3 := bl_len rs; have h4 := HRS.out.2; have h5 := U.hvs_len_le rs; omega
          unfold maxLen; omega⟩
        clear y0 y1 y2 hlt
        have ha0 : (0 : Int) ≤ (a : Int) := by omega
        rcases A1 with _ | ⟨b1, o1, p1⟩
        · clear hq5
          go_region_held3 (fun w' => PlX_H w bx 0 0 ⟨(U.encs rs).toArray⟩ w')
            (first | exact HPB.out.drew.x | exact (PlS_H.call (And.left (by assumption)) (by assumption)).x | exact (PlS_H.app (And.left (by assumption)) (by assumption) (by assumption) HOB.out).x | assumption)
            (first
              | (refine step_sl0 el_H (by first | exact HOWB.out.drew | exact own_below HOWB.out.drew (by assumption)) rfl rfl rfl rfl ?_)
              | (refine step_sl el_H (u16s (U.hvs rs)) v8 (by first | exact HOWB.out.drew | exact own_below HOWB.out.drew (by assumption)) hs8 rfl rfl rfl rfl (one_H rs) HB63.out.1 HB63.out.2 (PlS_H.below (And.left (by assumption))).size ?_; intro v9 w9 hown9 hbel9 hgr9 hnew9)
              | (go_at_call 110; refine (HPUT.out _).mono ?_; rintro e w8 ⟨hb8, v8, rfl, hs8⟩)
            )
          all_goals
            have HO9 := Hd.mk hown9
            have HB9 := Hd.mk ((HPB.out.drew.call hb8).below.trans hbel9)
            clear hown9 hbel9 hgr9 hnew9 hb8 hs8
            go_wp2_with fail
            exact ⟨⟨k + 1, _, P ++ d, q, T ++ rs, by go_num, rfl, HNEXT.out.1, by rw [app_H]; have h := HO9.out; rwa [show (U.hvs T).length + (U.hvs rs).length = (U.hvs (T ++ rs)).length by rw [← len_H, ← len_H, ← len_H, app_H, List.length_append]] at h, HB9.out, HNEXT.out.2⟩, by simp only [intOf]; omega⟩
        · by_cases hca : c1 = a
          · subst hca
            go_region_held3 (fun w' => PlX_H w bx 0 0 ⟨(U.encs rs).toArray⟩ w')
              (first | exact HPB.out.drew.x | exact (PlS_H.call (And.left (by assumption)) (by assumption)).x | exact (PlS_H.app (And.left (by assumption)) (by assumption) (by assumption) HOB.out).x | assumption)
              (first
                | (refine step_sl0 el_H (by first | exact HOWB.out.drew | exact own_below HOWB.out.drew (by assumption)) rfl rfl rfl rfl ?_)
                | (refine step_sl el_H (u16s (U.hvs rs)) v8 (by first | exact HOWB.out.drew | exact own_below HOWB.out.drew (by assumption)) hs8 rfl rfl rfl rfl (one_H rs) HB63.out.1 HB63.out.2 (PlS_H.below (And.left (by assumption))).size ?_; intro v9 w9 hown9 hbel9 hgr9 hnew9)
                | (go_at_call 110; refine (HPUT.out _).mono ?_; rintro e w8 ⟨hb8, v8, rfl, hs8⟩)
              )
            all_goals
              have HO9 := Hd.mk hown9
              have HB9 := Hd.mk ((HPB.out.drew.call hb8).below.trans hbel9)
              clear hown9 hbel9 hgr9 hnew9 hb8 hs8
              go_wp2_with fail
              exact ⟨⟨k + 1, _, P ++ d, q, T ++ rs, by go_num, rfl, HNEXT.out.1, by rw [app_H]; have h := HO9.out; rwa [show (U.hvs T).length + (U.hvs rs).length = (U.hvs (T ++ rs)).length by rw [← len_H, ← len_H, ← len_H, app_H, List.length_append]] at h, HB9.out, HNEXT.out.2⟩, by simp only [intOf]; omega⟩
          · skip
            go_region_held3 (fun w' => PlX_H w bx 0 0 ⟨(U.encs rs).toArray⟩ w')
              (first | exact HPB.out.drew.x | exact (PlS_H.call (And.left (by assumption)) (by assumption)).x | exact (PlS_H.app (And.left (by assumption)) (by assumption) (by assumption) HOB.out).x | assumption)
              (first
                | (refine step_sl0 el_H (by first | exact HOWB.out.drew | exact own_below HOWB.out.drew (by assumption)) rfl rfl rfl rfl ?_)
                | (refine step_sl el_H (u16s (U.hvs rs)) v8 (by first | exact HOWB.out.drew | exact own_below HOWB.out.drew (by assumption)) hs8 rfl rfl rfl rfl (one_H rs) HB63.out.1 HB63.out.2 (PlS_H.below (And.left (by assumption))).size ?_; intro v9 w9 hown9 hbel9 hgr9 hnew9)
                | (go_at_call 110; refine (HPUT.out _).mono ?_; rintro e w8 ⟨hb8, v8, rfl, hs8⟩)
              )
            all_goals
              have HO9 := Hd.mk hown9
              have HB9 := Hd.mk ((HPB.out.drew.call hb8).below.trans hbel9)
              clear hown9 hbel9 hgr9 hnew9 hb8 hs8
              go_wp2_with fail
              exact ⟨⟨k + 1, _, P ++ d, q, T ++ rs, by go_num, rfl, HNEXT.out.1, by rw [app_H]; have h := HO9.out; rwa [show (U.hvs T).length + (U.hvs rs).length = (U.hvs (T ++ rs)).length by rw [← len_H, ← len_H, ← len_H, app_H, List.length_append]] at h, HB9.out, HNEXT.out.2⟩, by simp only [intOf]; omega⟩
      · have hrs0 : rs = [] := by
          by_cases e : rs = []
          · exact e
          · exact absurd hput.symm (encs_ne e)
        subst hrs0
        obtain rfl : x = d9 := by dsimp only at hx; omega
        clear hput
        dsimp only at y0 y1 y2 hx
        have HPB : Hd (PlS_H w wr.heap.size 0 (x : Int) ⟨#[]⟩ (wr.alloc (.cells #[.int .i64 0, .int .i64 (x : Int), .string ⟨#[]⟩] 113))) := ⟨⟨ex_alloc HB.out _, Blk.new _ _ _⟩⟩
        have HOWB := Hd.mk (HOW.out.alloc (.cells #[.int .i64 0, .int .i64 (x : Int), .string ⟨#[]⟩] 113))
        have HOB : Hd ((Value.slice Ao (U.hvs T).length co).ownBlock ≠ some wr.heap.size) := ⟨fun e => by have := (HOW.out.lt _ e).2; omega⟩
        clear hx
        have hn0 : 0 < n1 := by omega
        obtain ⟨b1, o1, rfl⟩ := HS1.out.addr1 hn0
        have hw1 : IntKind.i64.wrap ((a : Int) + (x : Int)) = (a : Int) + (x : Int) := by rw [IntKind.wrap_i64] <;> omega
        have hw2 : IntKind.i64.wrap (a : Int) = (a : Int) := by rw [IntKind.wrap_i64] <;> omega
        have hw3 : IntKind.i64.wrap ((a : Int) + 0) = (a : Int) := by rw [IntKind.wrap_i64] <;> omega
        have hac : (a : Int) ≤ (c1 : Int) := by omega
        have ha0 : (0 : Int) ≤ (a : Int) := by omega
        have hca : ¬ c1 = a := by omega
        have hxa : ((a : Int) + (x : Int)) = ((a + x : Nat) : Int) := by omega
        have HXA := Hd.mk hxa
        clear hxa
        by_cases hbad : bad_H R (a + x) = true
        · have HE := Hd.mk (HSTOP.out hbad)
          have HBT := Hd.mk hbad
          clear hbad harg
          go_wp2_with (first
            | (go_at_call_of 112 (Value.int .i64 (a : Int)); refine (in_H (HS1.out.below (ex_alloc HB.out _)) HA.out (by omega) haR).mono ?_; rintro e w5 ⟨rfl, rfl⟩; rw [HBADP.out])
            | (go_at_call 112; rw [HXA.out]; refine (in_H (HS1.out.below (ex_alloc HB.out _)) HA.out (by omega) hxr).mono ?_; rintro e w5 ⟨rfl, rfl⟩; rw [HBT.out]))
          go_ret2
          exact ⟨ex_alloc HB.out _, .inr ⟨HE.out, rfl⟩⟩
        · have hbad : bad_H R (a + x) = false := by simpa using hbad
          have HBF := Hd.mk hbad
          obtain ⟨d, q, HRE, HDX, HNX⟩ := HGO.out hbad
          have HNEXT : Hd ((U.hvs (P ++ d)).length = a + x ∧ PlI R 2 l (k + 1) (P ++ d) q T) := ⟨nlen_H HA.out HRE HAP.out HDX, by have h := HNX; unfold kept at h; rw [if_neg (by dsimp only; omega), List.append_nil, List.append_nil] at h; exact h⟩
          clear HRE HDX HNX hbad harg
          go_wp2_with (first
            | (go_at_call_of 112 (Value.int .i64 (a : Int)); refine (in_H (HS1.out.below (ex_alloc HB.out _)) HA.out (by omega) haR).mono ?_; rintro e w5 ⟨rfl, rfl⟩; rw [HBADP.out])
            | (go_at_call 112; rw [HXA.out]; refine (in_H (HS1.out.below (ex_alloc HB.out _)) HA.out (by omega) hxr).mono ?_; rintro e w5 ⟨rfl, rfl⟩; rw [HBF.out]))
          generalize wr.alloc (.cells #[.int .i64 0, .int .i64 (x : Int), .string ⟨#[]⟩] 113) = wb at HPB HOWB ⊢
          generalize wr.heap.size = bx at HPB HOB ⊢
          have hx0 := HPB.out.drew.x
          have HPUT : Hd (∀ W, Calls Tryz.prog 110 #[.string ⟨#[]⟩] W fun e w' => Below W.heap.size W w' ∧ ∃ A c, e = .returned (.slice A 0 c)) := ⟨fun W => by
            refine (putH_calls (rs := []) (fun r hr => by cases hr) W (by decide)).mono ?_
            rintro e w' ⟨hb, v, rfl, A, c, rfl, -⟩
            exact ⟨hb, A, c, rfl⟩⟩
          clear y0 y1 y2 hlt
          have hax : (a : Int) + (x : Int) ≤ (c1 : Int) := by omega
          have hax0 : (0 : Int) ≤ (a : Int) + (x : Int) := by omega
          have haxn : ((a : Int) + (x : Int)).toNat = a + x := by omega
          go_region_held3 (fun w' => PlX_H w bx 0 (x : Int) ⟨#[]⟩ w')
            (first | exact HPB.out.drew.x | exact (PlS_H.call (And.left (by assumption)) (by assumption)).x | exact (PlS_H.app (And.left (by assumption)) (by assumption) (by assumption) HOB.out).x | assumption)
            (first
              | (refine step_sl0 el_H (by first | exact HOWB.out.drew | exact own_below HOWB.out.drew (by assumption)) rfl rfl rfl rfl ?_)
              | (go_at_call 110; refine (HPUT.out _).mono ?_; rintro e w8 ⟨hb8, A8, c8, rfl⟩)
            )
          all_goals
            have HO9 := Hd.mk (own_below HOWB.out.drew hb8)
            have HB9 := Hd.mk (HPB.out.drew.call hb8).below
            clear hb8
            go_wp2_with fail
            exact ⟨⟨k + 1, a + x, P ++ d, q, T, by go_num, by go_num, HNEXT.out.1, HO9.out, HB9.out, HNEXT.out.2⟩, by simp only [intOf]; omega⟩
      · have hrs0 : rs = [] := by
          by_cases e : rs = []
          · exact e
          · exact absurd hput.symm (encs_ne e)
        subst hrs0
        obtain rfl : x = d9 := by dsimp only at hx; omega
        clear hput
        dsimp only at y0 y1 y2 hx
        have HPB : Hd (PlS_H w wr.heap.size (x : Int) 0 ⟨#[]⟩ (wr.alloc (.cells #[.int .i64 (x : Int), .int .i64 0, .string ⟨#[]⟩] 113))) := ⟨⟨ex_alloc HB.out _, Blk.new _ _ _⟩⟩
        have HOWB := Hd.mk (HOW.out.alloc (.cells #[.int .i64 (x : Int), .int .i64 0, .string ⟨#[]⟩] 113))
        have HOB : Hd ((Value.slice Ao (U.hvs T).length co).ownBlock ≠ some wr.heap.size) := ⟨fun e => by have := (HOW.out.lt _ e).2; omega⟩
        clear hx
        have hn0 : 0 < n1 := by omega
        obtain ⟨b1, o1, rfl⟩ := HS1.out.addr1 hn0
        have hw1 : IntKind.i64.wrap ((a : Int) + (x : Int)) = (a : Int) + (x : Int) := by rw [IntKind.wrap_i64] <;> omega
        have hw2 : IntKind.i64.wrap (a : Int) = (a : Int) := by rw [IntKind.wrap_i64] <;> omega
        have hw3 : IntKind.i64.wrap ((a : Int) + 0) = (a : Int) := by rw [IntKind.wrap_i64] <;> omega
        have hac : (a : Int) ≤ (c1 : Int) := by omega
        have ha0 : (0 : Int) ≤ (a : Int) := by omega
        have hca : ¬ c1 = a := by omega
        have hxa : ((a : Int) + (x : Int)) = ((a + x : Nat) : Int) := by omega
        have HXA := Hd.mk hxa
        clear hxa
        by_cases hbad : bad_H R (a + x) = true
        · have HE := Hd.mk (HSTOP.out hbad)
          have HBT := Hd.mk hbad
          clear hbad harg
          go_wp2_with (first
            | (go_at_call_of 112 (Value.int .i64 (a : Int)); refine (in_H (HS1.out.below (ex_alloc HB.out _)) HA.out (by omega) haR).mono ?_; rintro e w5 ⟨rfl, rfl⟩; rw [HBADP.out])
            | (go_at_call 112; rw [HXA.out]; refine (in_H (HS1.out.below (ex_alloc HB.out _)) HA.out (by omega) hxr).mono ?_; rintro e w5 ⟨rfl, rfl⟩; rw [HBT.out]))
          go_ret2
          exact ⟨ex_alloc HB.out _, .inr ⟨HE.out, rfl⟩⟩
        · have hbad : bad_H R (a + x) = false := by simpa using hbad
          have HBF := Hd.mk hbad
          obtain ⟨d, q, HRE, HDX, HNX⟩ := HGO.out hbad
          have HNEXT : Hd ((U.hvs (P ++ d)).length = a + x ∧ PlI R 2 l (k + 1) (P ++ d) q (T ++ d)) := ⟨nlen_H HA.out HRE HAP.out HDX, by have h := HNX; unfold kept at h; rw [if_pos (by dsimp only; omega), List.append_nil] at h; exact h⟩
          have HND : Hd ((U.hvs d).length = x) := ⟨nd_H HA.out HRE HDX⟩
          have HSEG : Hd (∀ W, Below w.heap.size w W → Sl W 1 (.slice (some ⟨b1, o1 + a, none⟩) x (c1 - a)) x (u16s (U.hvs d))) := ⟨fun W hb => by
            have h := (seg_H (HS1.out.below hb) HRE HAP.out).1
            rwa [HND.out] at h⟩
          have HB63 : Hd ((U.hvs T).length + x ≤ maxLen ∧ ((U.hvs T).length + x) * 2 ≤ 140737488355328) := ⟨by
            have h1 := HTN.out
            have h2 : x ≤ 400000 := by omega
            unfold maxLen; omega⟩
          clear HRE HDX HNX hbad harg
          go_wp2_with (first
            | (go_at_call_of 112 (Value.int .i64 (a : Int)); refine (in_H (HS1.out.below (ex_alloc HB.out _)) HA.out (by omega) haR).mono ?_; rintro e w5 ⟨rfl, rfl⟩; rw [HBADP.out])
            | (go_at_call 112; rw [HXA.out]; refine (in_H (HS1.out.below (ex_alloc HB.out _)) HA.out (by omega) hxr).mono ?_; rintro e w5 ⟨rfl, rfl⟩; rw [HBF.out]))
          generalize wr.alloc (.cells #[.int .i64 (x : Int), .int .i64 0, .string ⟨#[]⟩] 113) = wb at HPB HOWB ⊢
          generalize wr.heap.size = bx at HPB HOB ⊢
          have hx0 := HPB.out.drew.x
          have HPUT : Hd (∀ W, Calls Tryz.prog 110 #[.string ⟨#[]⟩] W fun e w' => Below W.heap.size W w' ∧ ∃ A c, e = .returned (.slice A 0 c)) := ⟨fun W => by
            refine (putH_calls (rs := []) (fun r hr => by cases hr) W (by decide)).mono ?_
            rintro e w' ⟨hb, v, rfl, A, c, rfl, -⟩
            exact ⟨hb, A, c, rfl⟩⟩
          clear y0 y1 y2 hlt
          have hax : (a : Int) + (x : Int) ≤ (c1 : Int) := by omega
          have hax0 : (0 : Int) ≤ (a : Int) + (x : Int) := by omega
          have haxn : ((a : Int) + (x : Int)).toNat = a + x := by omega
          go_region_held3 (fun w' => PlX_H w bx (x : Int) 0 ⟨#[]⟩ w')
            (first | exact HPB.out.drew.x | exact (PlS_H.call (And.left (by assumption)) (by assumption)).x | exact (PlS_H.app (And.left (by assumption)) (by assumption) (by assumption) HOB.out).x | assumption)
            (first
              | (refine step_sl el_H (u16s (U.hvs d)) (.slice (some ⟨b1, o1 + a, none⟩) x (c1 - a)) (by first | exact HOWB.out.drew | exact own_below HOWB.out.drew (by assumption)) (HSEG.out _ (PlS_H.below (And.left (by assumption)))) rfl rfl rfl rfl (one_H d) HB63.out.1 HB63.out.2 (PlS_H.below (And.left (by assumption))).size ?_; intro v9 w9 hown9 hbel9 hgr9 hnew9)
              | (refine step_sl0 el_H (by first | exact hown9 | exact own_below hown9 (by assumption)) rfl rfl rfl rfl ?_)
              | (go_at_call 110; refine (HPUT.out _).mono ?_; rintro e w8 ⟨hb8, A8, c8, rfl⟩)
            )
          all_goals
            have HO9 : Hd (w8.ownsRow w.heap.size 205 1 v9 ((U.hvs T).length + x) (u16s (U.hvs T) ++ u16s (U.hvs d)) ∨ w9.ownsRow w.heap.size 205 1 v9 ((U.hvs T).length + x) (u16s (U.hvs T) ++ u16s (U.hvs d))) := ⟨.inr hown9⟩
            first
            | (have HB9 := Hd.mk ((HPB.out.drew.call hb8).below.trans hbel9); have HO8 := Hd.mk hown9; clear hb8 hown9 hbel9 hgr9 hnew9 HO9; go_wp2_with fail; exact ⟨⟨k + 1, a + x, P ++ d, q, T ++ d, by go_num, by go_num, HNEXT.out.1, by rw [app_H]; have h := HO8.out; rwa [show (U.hvs T).length + x = (U.hvs (T ++ d)).length by rw [← HND.out, ← len_H, ← len_H, ← len_H, app_H, List.length_append]] at h, HB9.out, HNEXT.out.2⟩, by simp only [intOf]; omega⟩)
            | (have HB9 := Hd.mk (bstep (HPB.out.drew.below.trans hbel9) hb8); have HO8 := Hd.mk (own_below hown9 hb8); clear hb8 hown9 hbel9 hgr9 hnew9 HO9; go_wp2_with fail; exact ⟨⟨k + 1, a + x, P ++ d, q, T ++ d, by go_num, by go_num, HNEXT.out.1, by rw [app_H]; have h := HO8.out; rwa [show (U.hvs T).length + x = (U.hvs (T ++ d)).length by rw [← HND.out, ← len_H, ← len_H, ← len_H, app_H, List.length_append]] at h, HB9.out, HNEXT.out.2⟩, by simp only [intOf]; omega⟩)
    · obtain rfl : k = n2 := by omega
      obtain ⟨f1, X, f2, f3⟩ := hI.finish (by decide) HLN.out.symm
      subst f3
      have HF := Hd.mk (And.intro f1 f2)
      have HS9 := Hd.mk (Sl.of_own hown)
      have HF9 := Hd.mk (Frs.of_own hown)
      clear hown hbel hI f1 f2 hRP hallP hofP hap
      go_wp2_with (go_at_call 152; refine (clip_H HS9.out).mono ?_; rintro e w9 ⟨⟨v9, rfl, hs9, hf9⟩, rfl⟩; have HS10 := Hd.mk hs9; have HF10 := Hd.mk (hf9 _ HF9.out); clear hs9 hf9)
      go_ret2
      exact ⟨HB.out, .inl ⟨_, X, HF.out.1, HF.out.2, rfl, HS10.out, HF10.out⟩⟩
end
end Go.Proofs.YtdgdajnbkfmijaaGreatDoor
/- A room in plain Lean: whatever comes keeps it so; flows end. -/
namespace Go.Proofs.YtdgdajnbkfmijaaGreatDoor
open Go.RowKit
set_option maxRecDepth 100000
theorem e1_code (l : List PT) : e1 l = 0 ∨ e1 l = 1 ∨ e1 l = 3 := by
  induction l with
  | nil => exact .inl rfl
  | cons p l ih =>
    unfold e1
    split
    · exact .inr (.inl rfl)
    split
    · exact .inr (.inr rfl)
    · exact ih
theorem e2_code (l : List PT) (n : Int) : e2 n l = 0 ∨ e2 n l = 2 := by
  induction l generalizing n with
  | nil => unfold e2; split <;> simp
  | cons p l ih =>
    unfold e2
    split
    · exact .inr rfl
    · exact ih _
theorem chk_ne8 (l : List PT) (n : Int) : chk l n ≠ 8 := by
  unfold chk
  split
  · rcases e2_code l n with h | h <;> rw [h] <;> decide
  · rcases e1_code l with h | h | h <;> rw [h] <;> decide
theorem apc_ne8 (l : List PT) (s : U.Bs) : apc l s ≠ 8 := by
  unfold apc
  split
  · split <;> decide
  · exact chk_ne8 _ _
theorem SV.does_ne8 (S : SV) (who id rev : Int) (op : List PT) : (S.does who id rev op).1 ≠ 8 := by
  unfold SV.does
  split
  · exact (by decide : (2 : Int) ≠ 8)
  split
  · exact (by decide : (4 : Int) ≠ 8)
  split
  · exact chk_ne8 _ _
  split
  · exact apc_ne8 _ _
  split
  · exact (by decide : (12 : Int) ≠ 8)
  · exact (by decide : (0 : Int) ≠ 8)
/-- No client was answered ErrNone last. -/
def SV.No8 (S : SV) : Prop := ∀ k i x, S.last k = some (i, x) → x ≠ 8
theorem SV.No8.take {S : SV} (h : S.No8) (who id rev : Int) (op : List PT) : (S.take who id rev op).2.No8 := by
  have hf : (S.fresh who id rev op).2.No8 := by
    intro k i x hx
    unfold SV.fresh at hx
    dsimp only at hx
    split at hx
    · cases hx; exact S.does_ne8 _ _ _ _
    · exact h k i x hx
  unfold SV.take
  split
  · split
    · exact h
    · split
      · exact h
      · exact hf
  · exact hf
/-- What Take answers, where the number is not below the last one's. -/
theorem SV.take_ne8 {S : SV} (h : S.No8) {who id rev : Int} {op : List PT} (hl : ∀ i x, S.last who = some (i, x) → i ≤ id) : (S.take who id rev op).1 ≠ 8 := by
  unfold SV.take
  split
  · rename_i i k hk
    have := hl i k hk
    rw [if_neg (by omega)]
    split
    · exact h who i k hk
    · exact S.does_ne8 _ _ _ _
  · exact S.does_ne8 _ _ _ _
/-- .. and what is answered last, behind it. -/
theorem SV.take_last {S : SV} {who id rev : Int} {op : List PT} (hl : ∀ i x, S.last who = some (i, x) → i ≤ id) : (S.take who id rev op).2.last who = some (id, (S.take who id rev op).1) := by
  have hf : (S.fresh who id rev op).2.last who = some (id, (S.fresh who id rev op).1) := by unfold SV.fresh; simp
  unfold SV.take
  split
  · rename_i i k hk
    have := hl i k hk
    rw [if_neg (by omega)]
    split
    · rename_i he
      rw [he]; exact hk
    · exact hf
  · exact hf
theorem SV.take_tk' (S : SV) (who id rev : Int) (op : List PT) : (S.take who id rev op).2.tk ≤ S.tk + 1 := by
  have hd : (S.does who id rev op).2.tk = S.tk := by
    unfold SV.does
    repeat' split
    all_goals rfl
  unfold SV.take SV.fresh
  repeat' split
  all_goals (try rw [hd])
  all_goals (try simp)
  all_goals (try omega)
section
variable {N : Int} {r : RM}
theorem getElem?_uniq {α : Type} {l : List α} {k : Nat} {a b : α} (h1 : l[k]? = some a) (h2 : l[k]? = some b) : a = b := Option.some.inj (h1.symm.trans h2)
theorem RMok.out (h : RMok N r) (i : Nat) : RMok N (r.out i) :=
  ⟨h.sv, h.ln, h.cl, fun p hp => h.way p (List.mem_of_mem_eraseIdx hp), Nat.le_trans (List.length_eraseIdx_le _ _) h.wl⟩
/-- Beside a server that took a packet's operation. -/
theorem RMok.served (h : RMok N r) {p : PK} {c : CV} (hc : r.cl[p.k]? = some c) (hp : PKok r.srv c p) (hk : p.kind = 1) : RMok N { r with srv := (r.srv.take p.k p.id p.rev p.en.op).2 } := by
  have ht := r.srv.take_spec p.k p.id p.rev p.en.op
  obtain ⟨a1, a2, a3, a4, a5, a6⟩ := hp.ask hk
  refine ⟨h.sv.take _ _ _ _, ?_, fun k' c' hc' => ?_, fun q hq => ?_, h.wl⟩
  · have hl := h.ln
    rcases ht with ⟨b1, -⟩ | ⟨-, -, -, b1, -, b2, -⟩
    · show (r.srv.take p.k p.id p.rev p.en.op).2.log.length ≤ 300
      rw [b1]; exact hl
    · show (r.srv.take p.k p.id p.rev p.en.op).2.log.length ≤ 300
      rw [b2, List.length_append]; simp; omega
  · refine (h.cl k' c' hc').served h.sv.len (fun e => ?_) ht
    have e2 : k' = p.k := by omega
    subst e2
    obtain rfl := getElem?_uniq hc hc'
    exact ⟨a2, a6⟩
  · obtain ⟨cq, hcq, hq'⟩ := h.way q hq
    exact ⟨cq, hcq, hq'.served (h.cl _ _ hcq).rev ht⟩
/-- A client that turned. -/
theorem RMok.setc (h : RMok N r) {N' : Int} (hN : N ≤ N') {k : Nat} {c c' : CV} (hk : r.cl[k]? = some c) (hc : CKok N' r.srv k c') (hp : ∀ p, PKok r.srv c p → PKok r.srv c' p) : RMok N' (r.setc k c') := by
  have hl := (List.getElem?_eq_some_iff.1 hk).1
  refine ⟨h.sv, h.ln, fun k' c2 hk' => ?_, fun q hq => ?_, h.wl⟩
  · have hk' : (r.cl.set k c')[k']? = some c2 := hk'
    by_cases e : k = k'
    · subst e
      rw [List.getElem?_set_self hl] at hk'
      cases hk'
      exact hc
    · rw [List.getElem?_set_ne e] at hk'
      exact (h.cl k' c2 hk').mono hN
  · obtain ⟨cq, hcq, hq'⟩ := h.way q hq
    show ∃ c2, (r.cl.set k c')[q.k]? = some c2 ∧ PKok r.srv c2 q
    by_cases e : k = q.k
    · subst e
      obtain rfl := getElem?_uniq hk hcq
      exact ⟨c', List.getElem?_set_self hl, hp q hq'⟩
    · exact ⟨cq, by rw [List.getElem?_set_ne e]; exact hcq, hq'⟩
theorem RM.tells_srv (r : RM) (k : Nat) (rev : Int) : (r.tells k rev).srv = r.srv ∧ (r.tells k rev).cl = r.cl := by
  unfold RM.tells
  split
  · exact r.sends_srv _
  · exact ⟨rfl, rfl⟩
theorem RMok.comes (h : RMok N r) {p : PK} {c : CV} (hc : r.cl[p.k]? = some c) (hp : PKok r.srv c p) : RMok N (r.comes p) := by
  unfold RM.comes
  split
  · rename_i hk
    have h1 := h.served hc hp hk
    have h2 := h1.tells (k := p.k) (c := c) hc p.rev
    obtain ⟨e1, e2⟩ := RM.tells_srv { r with srv := (r.srv.take p.k p.id p.rev p.en.op).2 } p.k p.rev
    dsimp only
    split
    · refine h2.send ⟨c, by rw [e2]; exact hc, ?_⟩
      rw [e1]
      exact ⟨.inr (.inr (.inr rfl)), ⟨by dsimp only; omega, Int.le_refl _⟩, fun e => absurd e (by decide : (4 : Int) ≠ 1), fun e => absurd e (by decide : (4 : Int) ≠ 3), fun e => absurd e (by decide : (4 : Int) ≠ 3)⟩
    · exact h2
  split
  · exact h.tells hc p.rev
  split
  · rename_i hk
    rw [hc]
    dsimp only
    have he : p.rev = c.rev → r.srv.log[c.rev]? = some p.en := fun e => by
      have := hp.told hk
      rwa [e, show ((c.rev : Nat) : Int).toNat = c.rev from by omega] at this
    exact h.setc (Int.le_refl _) hc ((h.cl _ _ hc).take h.sv he) (fun q hq => hq.take (h.cl _ _ hc) he)
  split
  · rw [hc]
    exact h.setc (Int.le_refl _) hc ((h.cl _ _ hc).refused p.id) (fun q hq => hq.refused p.id)
  · exact h
theorem RMok.deliver (h : RMok N r) (i : Nat) : RMok N (r.deliver i) := by
  unfold RM.deliver
  split
  · rename_i p hp
    obtain ⟨c, hc, hpk⟩ := h.way p (List.mem_of_getElem? hp)
    exact (h.out i).comes hc hpk
  · exact h
theorem RMok.again (h : RMok N r) (i : Nat) : RMok N (r.again i) := by
  unfold RM.again
  split
  · rename_i p hp
    exact h.send (h.way p (List.mem_of_getElem? hp))
  · exact h
theorem RMok.asks (h : RMok N r) (k : Nat) : RMok N (r.asks k) := by
  unfold RM.asks
  split
  · rename_i c hc
    have hck := h.cl k c hc
    refine h.send ⟨c, by unfold CV.asks; split <;> exact hc, ?_⟩
    have hrv : 0 ≤ (c.rev : Int) ∧ (c.rev : Int) ≤ (r.srv.log.length : Int) := ⟨by omega, by have := hck.rev; omega⟩
    unfold CV.asks
    split
    · rename_i hh
      obtain ⟨X, hX, hpl, -⟩ := hck.ok.yes hh
      have hb := hX.sizes.1
      have hsz := hck.ok.sz
      refine ⟨.inl rfl, hrv, fun _ => ⟨hck.ok.id1.1, Int.le_refl _, hX.arg, by dsimp only; omega, hpl, fun _ _ => ⟨by dsimp only; omega, ?_⟩⟩, fun e => absurd e (by decide : (1 : Int) ≠ 3), fun e => absurd e (by decide : (1 : Int) ≠ 3)⟩
      dsimp only
      rw [show ((c.rev : Nat) : Int).toNat = c.rev from by omega, seg_self, folt_nil]
    · exact ⟨.inr (.inl rfl), hrv, fun e => absurd e (by decide : (2 : Int) ≠ 1), fun e => absurd e (by decide : (2 : Int) ≠ 3), fun e => absurd e (by decide : (2 : Int) ≠ 3)⟩
  · exact h
theorem RMok.mono (h : RMok N r) {N' : Int} (hN : N ≤ N') : RMok N' r := ⟨h.sv, h.ln, fun k c hc => (h.cl k c hc).mono hN, h.way, h.wl⟩
theorem RMok.edit (h : RMok N r) (k : Nat) (l : List PT) : RMok (N + 1) (r.edit k l) := by
  unfold RM.edit
  split
  · rename_i c hc
    exact h.setc (by omega) hc ((h.cl k c hc).edit l) (fun q hq => hq.edit l)
  · exact h.mono (by omega)
end
/-- What else a packet's coming leaves: its server's documents, beside those that there were. -/
theorem RM.comes_srv (r : RM) (p : PK) : (r.comes p).srv = r.srv ∨ (p.kind = 1 ∧ (r.comes p).srv = (r.srv.take p.k p.id p.rev p.en.op).2) := by
  unfold RM.comes
  split
  · rename_i hk
    obtain ⟨e1, -⟩ := RM.tells_srv { r with srv := (r.srv.take p.k p.id p.rev p.en.op).2 } p.k p.rev
    refine .inr ⟨hk, ?_⟩
    dsimp only
    split
    · rw [(RM.send_srv _ _).1, e1]
    · exact e1
  split
  · exact .inl (r.tells_srv _ _).1
  split
  · split <;> exact .inl rfl
  split
  · split <;> exact .inl rfl
  · exact .inl rfl
theorem RM.comes_cl (r : RM) (p : PK) : (r.comes p).cl.length = r.cl.length := by
  unfold RM.comes
  split
  · obtain ⟨-, e1⟩ := RM.tells_srv { r with srv := (r.srv.take p.k p.id p.rev p.en.op).2 } p.k p.rev
    dsimp only
    split
    · rw [(RM.send_srv _ _).2, e1]
    · rw [e1]
  split
  · rw [(r.tells_srv _ _).2]
  split
  · split
    · exact List.length_set
    · rfl
  split
  · split
    · exact List.length_set
    · rfl
  · rfl
theorem RM.deliver_cl (r : RM) (i : Nat) : (r.deliver i).cl.length = r.cl.length := by
  unfold RM.deliver
  split
  · rw [RM.comes_cl]; rfl
  · rfl
theorem RM.deliver_tk (r : RM) (i : Nat) : (r.deliver i).srv.tk ≤ r.srv.tk + 1 := by
  unfold RM.deliver
  split
  · rename_i p _
    rcases RM.comes_srv (r.out i) p with e | ⟨-, e⟩
    · rw [e]; exact Nat.le_succ _
    · rw [e]; exact SV.take_tk' _ _ _ _ _
  · exact Nat.le_succ _
theorem RM.deliver_no8 {r : RM} (h : r.srv.No8) (i : Nat) : (r.deliver i).srv.No8 := by
  unfold RM.deliver
  split
  · rename_i p _
    rcases RM.comes_srv (r.out i) p with e | ⟨-, e⟩
    · rw [e]; exact h
    · rw [e]; exact SV.No8.take h _ _ _ _
  · exact h
/-- The documents that there are behind it: those that there were, and one more at most. -/
theorem RM.deliver_docs (r : RM) (i : Nat) : (r.deliver i).srv.docs = r.srv.docs ∨ ∃ d, (r.deliver i).srv.docs = r.srv.docs ++ [d] := by
  unfold RM.deliver
  split
  · rename_i p _
    rcases RM.comes_srv (r.out i) p with e | ⟨-, e⟩
    · rw [e]; exact .inl rfl
    · rw [e]
      rcases SV.take_spec (r.out i).srv p.k p.id p.rev p.en.op with ⟨-, h, -⟩ | ⟨-, -, -, -, -, -, h, -⟩
      · exact .inl h
      · exact .inr h
  · exact .inl rfl
theorem RM.asks_srv (r : RM) (k : Nat) : (r.asks k).srv = r.srv ∧ (r.asks k).cl = r.cl := by
  unfold RM.asks
  split
  · exact r.send_srv _
  · exact ⟨rfl, rfl⟩
/-- What is under way weighs. -/
def PK.wt (p : PK) : Nat := if p.kind = 1 ∨ p.kind = 2 then 1000 else 1
def wts (l : List PK) : Nat := (l.map PK.wt).sum
theorem wts_append (a b : List PK) : wts (a ++ b) = wts a + wts b := by unfold wts; simp
theorem wts_cons (p : PK) (l : List PK) : wts (p :: l) = p.wt + wts l := by unfold wts; simp
theorem PK.wt_le (p : PK) : 1 ≤ p.wt ∧ p.wt ≤ 1000 := by unfold PK.wt; split <;> omega
theorem wts_bound (l : List PK) : wts l ≤ 1000 * l.length := by
  induction l with
  | nil => simp [wts]
  | cons p l ih => rw [wts_cons, List.length_cons]; have := p.wt_le; omega
theorem RM.send_wt (r : RM) (p : PK) : wts (r.send p).way ≤ wts r.way + p.wt := by
  unfold RM.send
  split
  · exact Nat.le_add_right _ _
  · rw [wts_append, wts_cons]; simp [wts]
theorem RM.sends_wt (r : RM) (l : List PK) : wts (r.sends l).way ≤ wts r.way + wts l := by
  induction l generalizing r with
  | nil => simp [RM.sends]
  | cons p l ih =>
    have h1 := ih (r.send p)
    have h2 := r.send_wt p
    rw [wts_cons]
    have e : r.sends (p :: l) = (r.send p).sends l := rfl
    rw [e]
    omega
theorem tolds_wt (k n : Nat) (l : List EN) : wts (tolds k n l) = l.length ∧ (tolds k n l).length = l.length := by
  induction l generalizing n with
  | nil => simp [tolds, wts]
  | cons e l ih =>
    rw [tolds, wts_cons, (ih _).1, List.length_cons, List.length_cons, (ih _).2]
    refine ⟨?_, rfl⟩
    have : (⟨3, k, n, 0, e⟩ : PK).wt = 1 := rfl
    omega
theorem RM.tells_wt (r : RM) (k : Nat) (rev : Int) : wts (r.tells k rev).way ≤ wts r.way + r.srv.log.length := by
  unfold RM.tells
  split
  · have := r.sends_wt (tolds k rev.toNat (r.srv.log.drop rev.toNat))
    rw [(tolds_wt _ _ _).1, List.length_drop] at this
    omega
  · omega
/-- What comes makes what is under way lighter. -/
theorem RMok.lighter {N : Int} {r : RM} (h : RMok N r) {p : PK} {l : List PK} (hw : r.way = p :: l) : wts (r.deliver 0).way < wts r.way := by
  have e0 : r.way[0]? = some p := by rw [hw]; rfl
  obtain ⟨c, hc, hp⟩ := h.way p (by rw [hw]; simp)
  have e1 : (r.out 0).way = l := by unfold RM.out; rw [hw]; rfl
  have ed : r.deliver 0 = (r.out 0).comes p := by unfold RM.deliver; rw [e0]
  have hln := h.ln
  rw [ed, hw, wts_cons]
  have hpw := p.wt_le
  unfold RM.comes
  split
  · rename_i hk
    have h1 := ((h.out 0).served (p := p) (c := c) hc hp hk).ln
    have h2 := RM.tells_wt { r.out 0 with srv := ((r.out 0).srv.take p.k p.id p.rev p.en.op).2 } p.k p.rev
    have e2 : p.wt = 1000 := by unfold PK.wt; rw [if_pos (.inl hk)]
    dsimp only at h1 h2 ⊢
    have e4 : wts (r.out 0).way = wts l := by rw [e1]
    split
    · have h3 := RM.send_wt (RM.tells { r.out 0 with srv := ((r.out 0).srv.take p.k p.id p.rev p.en.op).2 } p.k p.rev) ⟨4, p.k, (((r.out 0).srv.take p.k p.id p.rev p.en.op).2.log.length : Int), p.id, noEn⟩
      dsimp only at h3
      have e3 : (⟨4, p.k, (((r.out 0).srv.take p.k p.id p.rev p.en.op).2.log.length : Int), p.id, noEn⟩ : PK).wt = 1 := rfl
      omega
    · omega
  split
  · rename_i hk
    have h2 := RM.tells_wt (r.out 0) p.k p.rev
    have e2 : p.wt = 1000 := by unfold PK.wt; rw [if_pos (.inr hk)]
    have e3 : (r.out 0).srv = r.srv := rfl
    rw [e1, e3] at h2
    omega
  split
  · split
    · show wts (r.out 0).way < _
      rw [e1]; omega
    · rw [e1]; omega
  split
  · split
    · show wts (r.out 0).way < _
      rw [e1]; omega
    · rw [e1]; omega
  · rw [e1]; omega
/-- Packets come until none is under way. -/
noncomputable def RM.flow : Nat → RM → RM
  | 0, r => r
  | n + 1, r => if r.way = [] then r else RM.flow n (r.deliver 0)
noncomputable def RM.flows (r : RM) : RM := RM.flow (wts r.way) r
theorem wts_nil {l : List PK} (h : wts l = 0) : l = [] := by
  cases l with
  | nil => rfl
  | cons p l => rw [wts_cons] at h; have := p.wt_le; omega
theorem flow_more {N : Int} {r : RM} (h : RMok N r) {n m : Nat} (hn : wts r.way ≤ n) (hm : wts r.way ≤ m) : RM.flow n r = RM.flow m r := by
  induction n generalizing r m with
  | zero =>
    have hw := wts_nil (Nat.le_zero.1 hn)
    cases m with
    | zero => rfl
    | succ m => unfold RM.flow; rw [if_pos hw]
  | succ n ih =>
    cases m with
    | zero =>
      have hw := wts_nil (Nat.le_zero.1 hm)
      unfold RM.flow; rw [if_pos hw]
    | succ m =>
      by_cases hw : r.way = []
      · unfold RM.flow; rw [if_pos hw, if_pos hw]
      · rw [RM.flow, RM.flow, if_neg hw, if_neg hw]
        cases hl : r.way with
        | nil => exact absurd hl hw
        | cons p l =>
          have := h.lighter hl
          exact ih (h.deliver 0) (by omega) (by omega)
theorem RM.flows_nil {r : RM} (h : r.way = []) : r.flows = r := by
  unfold RM.flows
  rw [h]
  rfl
theorem RMok.flows_cons {N : Int} {r : RM} (h : RMok N r) (hw : r.way ≠ []) : r.flows = (r.deliver 0).flows := by
  have e : r.flows = RM.flow (wts r.way + 1) r := flow_more h (Nat.le_refl _) (Nat.le_succ _)
  rw [e, RM.flow, if_neg hw]
  cases hl : r.way with
  | nil => exact absurd hl hw
  | cons p l =>
    have := h.lighter hl
    rw [hl] at this
    exact flow_more (h.deliver 0) (by omega) (Nat.le_refl _)
/-- What holds of all that is delivered holds behind flows. -/
theorem RMok.flows_ind {N : Int} {I : RM → Prop} (hI : ∀ r, RMok N r → I r → r.way ≠ [] → I (r.deliver 0)) {r : RM} (h : RMok N r) (h0 : I r) : I r.flows ∧ RMok N r.flows ∧ r.flows.way = [] := by
  obtain ⟨n, hn⟩ : ∃ n, n = wts r.way := ⟨_, rfl⟩
  induction n using Nat.strongRecOn generalizing r with
  | _ n ih =>
    cases hl : r.way with
    | nil => rw [RM.flows_nil hl]; exact ⟨h0, h, hl⟩
    | cons p l =>
      have hne : r.way ≠ [] := by rw [hl]; simp
      rw [h.flows_cons hne]
      exact ih _ (by rw [hn]; exact h.lighter hl) (h.deliver 0) (hI r h h0 hne) rfl
theorem RMok.flows_tk {N : Int} {r : RM} (h : RMok N r) : r.flows.srv.tk ≤ r.srv.tk + wts r.way := by
  obtain ⟨n, hn⟩ : ∃ n, n = wts r.way := ⟨_, rfl⟩
  induction n using Nat.strongRecOn generalizing r with
  | _ n ih =>
    cases hl : r.way with
    | nil => rw [RM.flows_nil hl]; omega
    | cons p l =>
      have hne : r.way ≠ [] := by rw [hl]; simp
      have h1 := h.lighter hl
      have h2 := r.deliver_tk 0
      have h3 := ih _ (by rw [hn]; exact h1) (h.deliver 0) rfl
      rw [h.flows_cons hne, ← hl]
      omega
/-- A round in which nothing is lost. -/
noncomputable def RM.turn (r : RM) (k : Nat) : RM := (r.asks k).flows
noncomputable def RM.turns (r : RM) (n : Nat) : RM := (List.range n).foldl RM.turn r
noncomputable def RM.quiet (r : RM) : RM := r.flows.turns r.cl.length
theorem RM.turns_succ (r : RM) (n : Nat) : r.turns (n + 1) = (r.turns n).turn n := by unfold RM.turns; rw [List.range_succ, List.foldl_append]; rfl
theorem RMok.flows {N : Int} {r : RM} (h : RMok N r) : RMok N r.flows ∧ r.flows.way = [] := (h.flows_ind (I := fun _ => True) (fun _ _ _ _ => trivial) trivial).2
theorem RMok.flows_cl {N : Int} {r : RM} (h : RMok N r) : r.flows.cl.length = r.cl.length := (h.flows_ind (I := fun x => x.cl.length = r.cl.length) (fun x _ hx _ => (x.deliver_cl 0).trans hx) rfl).1
theorem RMok.turn {N : Int} {r : RM} (h : RMok N r) (k : Nat) : RMok N (r.turn k) ∧ (r.turn k).way = [] ∧ (r.turn k).cl.length = r.cl.length ∧ (r.turn k).srv.tk ≤ r.srv.tk + wts r.way + 1000 := by
  have h1 := (h.asks k).flows
  have h2 := (h.asks k).flows_cl
  have h3 := (h.asks k).flows_tk
  obtain ⟨e1, e2⟩ := r.asks_srv k
  refine ⟨h1.1, h1.2, ?_, ?_⟩
  · unfold RM.turn; rw [h2, e2]
  · unfold RM.turn
    rw [e1] at h3
    have h4 : wts (r.asks k).way ≤ wts r.way + 1000 := by
      unfold RM.asks
      split
      · rename_i c _
        have := r.send_wt (c.asks k)
        have := (c.asks k).wt_le
        omega
      · omega
    omega
theorem RMok.turns {N : Int} {r : RM} (h : RMok N r) (hw : r.way = []) (n : Nat) : RMok N (r.turns n) ∧ (r.turns n).way = [] ∧ (r.turns n).cl.length = r.cl.length ∧ (r.turns n).srv.tk ≤ r.srv.tk + n * 1000 := by
  induction n with
  | zero => exact ⟨h, hw, rfl, by simp [RM.turns]⟩
  | succ n ih =>
    obtain ⟨h1, h2, h3, h4⟩ := ih
    rw [RM.turns_succ]
    obtain ⟨k1, k2, k3, k4⟩ := h1.turn n
    rw [h2] at k4
    simp only [wts, List.map_nil, List.sum_nil] at k4
    exact ⟨k1, k2, k3.trans h3, by omega⟩
theorem RMok.quiet {N : Int} {r : RM} (h : RMok N r) : RMok N r.quiet ∧ r.quiet.way = [] ∧ r.quiet.cl.length = r.cl.length ∧ r.quiet.srv.tk ≤ r.srv.tk + 400000 + r.cl.length * 1000 := by
  obtain ⟨h1, h2⟩ := h.flows
  have h3 := h.flows_tk
  have h4 := wts_bound r.way
  have h5 := h.wl
  obtain ⟨k1, k2, k3, k4⟩ := h1.turns h2 r.cl.length
  exact ⟨k1, k2, k3.trans h.flows_cl, by unfold RM.quiet; omega⟩
theorem RMok.quiet_no8 {N : Int} {r : RM} (h : RMok N r) (h8 : r.srv.No8) : r.flows.srv.No8 := (h.flows_ind (I := fun x => x.srv.No8) (fun _ _ hx _ => RM.deliver_no8 hx 0) h8).1
end Go.Proofs.YtdgdajnbkfmijaaGreatDoor
/- A room in plain Lean: behind three rounds all see the same. -/
namespace Go.Proofs.YtdgdajnbkfmijaaGreatDoor
open Go.RowKit
set_option maxRecDepth 100000
/-- What a client is told, one behind the other. -/
noncomputable def takes (c : CV) : Nat → List EN → CV
  | _, [] => c
  | n, e :: l => takes (c.take n e) (n + 1) l
/-- How much of its own is not there yet. -/
def CV.pend (c : CV) : Nat := (if c.has then 1 else 0) + (if c.more then 1 else 0)
theorem CV.take_rev (c : CV) (e : EN) : (c.take c.rev e).rev = c.rev + 1 := by
  unfold CV.take
  rw [if_neg (fun h => h rfl)]
  split <;> rfl
theorem CV.take_own {c : CV} {e : EN} (h : c.isOwn e) : (c.take c.rev e).pend + 1 = c.pend := by
  unfold CV.take
  rw [if_neg (fun h => h rfl), if_pos h]
  have hh := h.2.1
  unfold CV.pend CV.own
  dsimp only
  rw [hh]
  simp
  omega
theorem CV.take_other {c : CV} {e : EN} (h : ¬ c.isOwn e) : (c.take c.rev e).who = c.who ∧ (c.take c.rev e).id = c.id ∧ (c.take c.rev e).has = c.has ∧ (c.take c.rev e).more = c.more := by
  unfold CV.take
  rw [if_neg (fun h => h rfl), if_neg h]
  exact ⟨rfl, rfl, rfl, rfl⟩
theorem CV.pend_eq {c c' : CV} (h1 : c'.has = c.has) (h2 : c'.more = c.more) : c'.pend = c.pend := by unfold CV.pend; rw [h1, h2]
theorem CV.take_pend (c : CV) (rev : Int) (e : EN) : (c.take rev e).pend ≤ c.pend := by
  by_cases hr : rev = c.rev
  · subst hr
    by_cases ho : c.isOwn e
    · have := CV.take_own ho; omega
    · obtain ⟨-, -, h1, h2⟩ := CV.take_other ho
      exact Nat.le_of_eq (CV.pend_eq h1 h2)
  · unfold CV.take
    rw [if_pos hr]
    exact Nat.le_refl _
theorem CV.refused_pend (c : CV) (id : Int) : (c.refused id).pend ≤ c.pend := by
  unfold CV.refused
  split
  · unfold CV.pend; simp
  · exact Nat.le_refl _
/-- What is left behind all that a client is told. -/
theorem takes_spec (l : List EN) (c : CV) (n : Nat) (hn : c.rev = n) : (takes c n l).rev = n + l.length ∧
    ((takes c n l).pend + 1 ≤ c.pend ∨ ((takes c n l).id = c.id ∧ (takes c n l).has = c.has ∧ (takes c n l).more = c.more ∧ ∀ e ∈ l, ¬ c.isOwn e)) := by
  induction l generalizing c n with
  | nil => exact ⟨hn, .inr ⟨rfl, rfl, rfl, fun e he => by cases he⟩⟩
  | cons e l ih =>
    subst hn
    obtain ⟨h1, h2⟩ := ih (c.take c.rev e) (c.rev + 1) (c.take_rev e)
    rw [takes, List.length_cons]
    refine ⟨by rw [h1]; omega, ?_⟩
    by_cases ho : c.isOwn e
    · have h3 := CV.take_own ho
      refine .inl ?_
      rcases h2 with h2 | ⟨-, h4, h5, -⟩
      · omega
      · have := CV.pend_eq h4 h5; omega
    · obtain ⟨a1, a2, a3, a4⟩ := CV.take_other ho
      have h6 := CV.pend_eq a3 a4
      rcases h2 with h2 | ⟨b1, b2, b3, b4⟩
      · exact .inl (by omega)
      · refine .inr ⟨b1.trans a2, b2.trans a3, b3.trans a4, fun x hx => ?_⟩
        rcases List.mem_cons.1 hx with rfl | hx
        · exact ho
        · intro hy
          refine b4 x hx ⟨?_, ?_, ?_⟩
          · rw [a1]; exact hy.1
          · rw [a3]; exact hy.2.1
          · rw [a2]; exact hy.2.2
/-- There is room for all that is sent. -/
theorem RM.sends_room {r : RM} {l : List PK} (h : r.way.length + l.length ≤ 400) : r.sends l = { r with way := r.way ++ l } := by
  induction l generalizing r with
  | nil => simp [RM.sends]
  | cons p l ih =>
    rw [List.length_cons] at h
    have e : r.sends (p :: l) = (r.send p).sends l := rfl
    have e2 : r.send p = { r with way := r.way ++ [p] } := by unfold RM.send; rw [if_neg (by omega)]
    rw [e, e2, ih (by simp; omega)]
    simp
theorem RM.tells_room {r : RM} {k n : Nat} (hn : n ≤ r.srv.log.length) (hl : r.srv.log.length ≤ 300) (hw : r.way = []) : r.tells k n = { r with way := tolds k n (r.srv.log.drop n) } := by
  unfold RM.tells
  rw [if_pos ⟨by omega, by omega⟩, show ((n : Nat) : Int).toNat = n from by omega]
  rw [RM.sends_room (by rw [hw, (tolds_wt _ _ _).2, List.length_drop]; simp; omega), hw, List.nil_append]
/-- All that a client is told comes. -/
theorem RMok.flows_tolds {N : Int} {r : RM} (h : RMok N r) {k n : Nat} {l : List EN} {q : List PK} {c : CV} (hw : r.way = tolds k n l ++ q) (hc : r.cl[k]? = some c) :
    r.flows = RM.flows ⟨r.srv, r.cl.set k (takes c n l), q, r.lost⟩ ∧ RMok N ⟨r.srv, r.cl.set k (takes c n l), q, r.lost⟩ := by
  induction l generalizing r n c with
  | nil =>
    have e : r.cl.set k (takes c n []) = r.cl := by
      obtain ⟨h1, rfl⟩ := List.getElem?_eq_some_iff.1 hc
      exact List.set_getElem_self h1
    have e2 : (⟨r.srv, r.cl, q, r.lost⟩ : RM) = r := by
      have : r.way = q := hw
      rw [← this]
    rw [e, e2]
    exact ⟨rfl, h⟩
  | cons e l ih =>
    have hne : r.way ≠ [] := by rw [hw, tolds]; simp
    have hd : r.deliver 0 = ⟨r.srv, r.cl.set k (c.take n e), tolds k (n + 1) l ++ q, r.lost⟩ := by
      have e0 : r.way[0]? = some ⟨3, k, n, 0, e⟩ := by rw [hw]; rfl
      unfold RM.deliver
      rw [e0]
      dsimp only
      unfold RM.comes
      rw [if_neg (by decide : ¬ (3 : Int) = 1), if_neg (by decide : ¬ (3 : Int) = 2), if_pos (rfl : (3 : Int) = 3)]
      have e1 : (r.out 0).cl[k]? = some c := hc
      rw [e1]
      dsimp only
      unfold RM.setc RM.out
      rw [hw, tolds]
      rfl
    have h1 := h.deliver 0
    rw [hd] at h1
    have hl := (List.getElem?_eq_some_iff.1 hc).1
    obtain ⟨i1, i2⟩ := ih h1 rfl (List.getElem?_set_self hl)
    dsimp only at i1 i2
    rw [List.set_set] at i1 i2
    rw [h.flows_cons hne, hd, takes]
    exact ⟨i1, i2⟩
theorem List.set_at_self {α : Type} {l : List α} {k : Nat} {c : α} (hc : l[k]? = some c) : l.set k c = l := by
  obtain ⟨h1, rfl⟩ := List.getElem?_eq_some_iff.1 hc
  exact List.set_getElem_self h1
theorem CV.asks_no {c : CV} (h : c.has = false) (k : Nat) : c.asks k = ⟨2, k, c.rev, 0, noEn⟩ := by unfold CV.asks; rw [h]; rfl
theorem CV.asks_yes {c : CV} (h : c.has = true) (k : Nat) : c.asks k = ⟨1, k, c.rev, c.id, ⟨k, c.id, c.way⟩⟩ := by unfold CV.asks; rw [h]; rfl
/-- A client that asks, where nothing is under way. -/
theorem RMok.turn_spec {N : Int} {r : RM} (h : RMok N r) (h8 : r.srv.No8) (hw : r.way = []) {k : Nat} {c : CV} (hc : r.cl[k]? = some c) :
    ∃ S' c', r.turn k = ⟨S', r.cl.set k c', [], r.lost⟩ ∧ S'.No8 ∧ c'.rev = S'.log.length ∧ c'.pend ≤ c.pend - 1 ∧ (c.pend = 0 → S' = r.srv) ∧
      S' = (if c.has then (r.srv.take k c.id c.rev c.way).2 else r.srv) := by
  have hck := h.cl k c hc
  have hl := (List.getElem?_eq_some_iff.1 hc).1
  have hrv := hck.rev
  have ha : r.asks k = ⟨r.srv, r.cl, [c.asks k], r.lost⟩ := by
    unfold RM.asks
    rw [hc]
    dsimp only
    unfold RM.send
    rw [hw, if_neg (by simp)]
    rfl
  have hra := h.asks k
  rw [ha] at hra
  have hne : (⟨r.srv, r.cl, [c.asks k], r.lost⟩ : RM).way ≠ [] := by simp
  unfold RM.turn
  rw [ha, hra.flows_cons hne]
  cases hh : c.has
  · have hp : c.pend = 0 := by unfold CV.pend; rw [hh, (hck.ok.no hh).1]; rfl
    have hd : RM.deliver ⟨r.srv, r.cl, [c.asks k], r.lost⟩ 0 = ⟨r.srv, r.cl, tolds k c.rev (r.srv.log.drop c.rev) ++ [], r.lost⟩ := by
      rw [CV.asks_no hh]
      have e : RM.deliver ⟨r.srv, r.cl, [⟨2, k, c.rev, 0, noEn⟩], r.lost⟩ 0 = RM.tells ⟨r.srv, r.cl, [], r.lost⟩ k c.rev := rfl
      rw [e, RM.tells_room (r := ⟨r.srv, r.cl, [], r.lost⟩) hrv h.ln rfl, List.append_nil]
    have h1 := hra.deliver 0
    rw [hd] at h1
    obtain ⟨f1, -⟩ := h1.flows_tolds (c := c) rfl hc
    rw [hd, f1, RM.flows_nil rfl]
    obtain ⟨t1, t2⟩ := takes_spec (r.srv.log.drop c.rev) c c.rev rfl
    refine ⟨r.srv, _, rfl, h8, ?_, ?_, fun _ => rfl, by simp⟩
    · rw [t1, List.length_drop]; omega
    · rcases t2 with t2 | ⟨-, t3, t4, -⟩
      · omega
      · have := CV.pend_eq t3 t4; omega
  · have hpl : 1 ≤ c.pend := by unfold CV.pend; rw [hh]; simp
    obtain ⟨t, ht⟩ : ∃ t, t = r.srv.take k c.id c.rev c.way := ⟨_, rfl⟩
    have hsp := r.srv.take_spec k c.id c.rev c.way
    have hl3 := SV.take_last (S := r.srv) (who := (k : Int)) (id := c.id) (rev := (c.rev : Int)) (op := c.way) hck.lst
    have hn8 := SV.take_ne8 (rev := (c.rev : Int)) (op := c.way) h8 hck.lst
    have h8' := h8.take k c.id c.rev c.way
    rw [← ht] at hsp hl3 hn8 h8'
    have hserved : CKok N t.2 k c := hck.served h.sv.len (fun _ => ⟨Int.le_refl _, fun _ _ => ⟨by omega, by rw [show ((c.rev : Nat) : Int).toNat = c.rev from by omega, seg_self, folt_nil]⟩⟩) hsp
    have hln : t.2.log.length ≤ 300 := by
      have := h.ln
      rcases hsp with ⟨b1, -⟩ | ⟨-, -, -, b1, -, b2, -⟩
      · rw [b1]; exact this
      · rw [b2, List.length_append]; simp; omega
    have hrv' := hserved.rev
    have hroom := RM.tells_room (r := ⟨t.2, r.cl, [], r.lost⟩) (k := k) hrv' hln rfl
    have hd : RM.deliver ⟨r.srv, r.cl, [c.asks k], r.lost⟩ 0 = if t.1 ≠ 0 ∧ t.1 ≠ 8 then ⟨t.2, r.cl, tolds k c.rev (t.2.log.drop c.rev) ++ [⟨4, k, (t.2.log.length : Int), c.id, noEn⟩], r.lost⟩ else ⟨t.2, r.cl, tolds k c.rev (t.2.log.drop c.rev) ++ [], r.lost⟩ := by
      rw [CV.asks_yes hh]
      have e : RM.deliver ⟨r.srv, r.cl, [⟨1, k, c.rev, c.id, ⟨k, c.id, c.way⟩⟩], r.lost⟩ 0 = if (r.srv.take k c.id c.rev c.way).1 ≠ 0 ∧ (r.srv.take k c.id c.rev c.way).1 ≠ 8 then (RM.tells ⟨(r.srv.take k c.id c.rev c.way).2, r.cl, [], r.lost⟩ k c.rev).send ⟨4, k, ((r.srv.take k c.id c.rev c.way).2.log.length : Int), c.id, noEn⟩ else RM.tells ⟨(r.srv.take k c.id c.rev c.way).2, r.cl, [], r.lost⟩ k c.rev := rfl
      rw [e, ← ht, hroom]
      split
      · unfold RM.send
        dsimp only
        rw [if_neg (by rw [(tolds_wt _ _ _).2, List.length_drop]; omega)]
      · rw [List.append_nil]
    have h1 := hra.deliver 0
    rw [hd] at h1 ⊢
    obtain ⟨t1, t2⟩ := takes_spec (t.2.log.drop c.rev) c c.rev rfl
    have tr : (takes c c.rev (t.2.log.drop c.rev)).rev = t.2.log.length := by rw [t1, List.length_drop]; omega
    by_cases ht0 : t.1 = 0
    · rw [if_neg (fun e => e.1 ht0)] at h1 ⊢
      obtain ⟨f1, -⟩ := h1.flows_tolds (c := c) rfl hc
      rw [f1, RM.flows_nil rfl]
      refine ⟨t.2, _, rfl, h8', tr, ?_, fun e => by omega, by rw [if_pos rfl, ht]⟩
      rcases t2 with t2 | ⟨-, -, -, t5⟩
      · omega
      · exfalso
        obtain ⟨m, e, a1, a2, a3, a4⟩ := hserved.acc _ _ hl3 rfl ht0 hh
        refine t5 e (List.mem_iff_getElem?.2 ⟨m - c.rev, ?_⟩) ⟨by rw [a3, hck.who], hh, a4⟩
        rw [List.getElem?_drop, show c.rev + (m - c.rev) = m from by omega]
        exact a2
    · rw [if_pos ⟨ht0, hn8⟩] at h1 ⊢
      obtain ⟨f1, f2⟩ := h1.flows_tolds (c := c) rfl hc
      rw [f1]
      have hne2 : (⟨t.2, r.cl.set k (takes c c.rev (t.2.log.drop c.rev)), [⟨4, k, (t.2.log.length : Int), c.id, noEn⟩], r.lost⟩ : RM).way ≠ [] := by simp
      dsimp only at f2 ⊢
      rw [f2.flows_cons hne2]
      have hd2 : RM.deliver ⟨t.2, r.cl.set k (takes c c.rev (t.2.log.drop c.rev)), [⟨4, k, (t.2.log.length : Int), c.id, noEn⟩], r.lost⟩ 0 = ⟨t.2, r.cl.set k ((takes c c.rev (t.2.log.drop c.rev)).refused c.id), [], r.lost⟩ := by
        have e : RM.deliver ⟨t.2, r.cl.set k (takes c c.rev (t.2.log.drop c.rev)), [⟨4, k, (t.2.log.length : Int), c.id, noEn⟩], r.lost⟩ 0 = RM.comes ⟨t.2, r.cl.set k (takes c c.rev (t.2.log.drop c.rev)), [], r.lost⟩ ⟨4, k, (t.2.log.length : Int), c.id, noEn⟩ := rfl
        rw [e]
        unfold RM.comes
        rw [if_neg (by decide : ¬ (4 : Int) = 1), if_neg (by decide : ¬ (4 : Int) = 2), if_neg (by decide : ¬ (4 : Int) = 3), if_pos (rfl : (4 : Int) = 4)]
        dsimp only
        rw [List.getElem?_set_self hl]
        dsimp only
        unfold RM.setc
        dsimp only
        rw [List.set_set]
      rw [hd2, RM.flows_nil rfl]
      refine ⟨t.2, _, rfl, h8', ?_, ?_, fun e => by omega, by rw [if_pos rfl, ht]⟩
      · have : ((takes c c.rev (t.2.log.drop c.rev)).refused c.id).rev = (takes c c.rev (t.2.log.drop c.rev)).rev := by unfold CV.refused; split <;> rfl
        rw [this, tr]
      · rcases t2 with t2 | ⟨u1, u2, u3, -⟩
        · have := (takes c c.rev (t.2.log.drop c.rev)).refused_pend c.id
          omega
        · have : ((takes c c.rev (t.2.log.drop c.rev)).refused c.id).pend = 0 := by
            unfold CV.refused
            rw [if_pos ⟨by rw [u2, hh], u1.symm⟩]
            rfl
          omega
/-- How much is not there yet, of each. -/
def RM.pend (r : RM) (k : Nat) : Nat := match r.cl[k]? with | some c => c.pend | none => 0
theorem RM.pend_le (r : RM) (k : Nat) : r.pend k ≤ 2 := by
  unfold RM.pend
  split
  · unfold CV.pend; split <;> split <;> omega
  · omega
theorem RM.pend_setc {r : RM} {k : Nat} {c c' : CV} (hc : r.cl[k]? = some c) (hp : c'.pend ≤ c.pend) (j : Nat) : (r.setc k c').pend j ≤ r.pend j := by
  have hl := (List.getElem?_eq_some_iff.1 hc).1
  unfold RM.pend RM.setc
  dsimp only
  by_cases e : k = j
  · subst e
    rw [List.getElem?_set_self hl, hc]
    exact hp
  · rw [List.getElem?_set_ne e]
    exact Nat.le_refl _
theorem RM.pend_cl {r r' : RM} (h : r'.cl = r.cl) (j : Nat) : r'.pend j = r.pend j := by unfold RM.pend; rw [h]
theorem RM.comes_pend (r : RM) (p : PK) (j : Nat) : (r.comes p).pend j ≤ r.pend j := by
  unfold RM.comes
  split
  · obtain ⟨-, e1⟩ := RM.tells_srv { r with srv := (r.srv.take p.k p.id p.rev p.en.op).2 } p.k p.rev
    dsimp only
    split
    · exact Nat.le_of_eq (RM.pend_cl ((RM.send_srv _ _).2.trans e1) j)
    · exact Nat.le_of_eq (RM.pend_cl e1 j)
  split
  · exact Nat.le_of_eq (RM.pend_cl (r.tells_srv _ _).2 j)
  split
  · split
    · rename_i c hc
      exact RM.pend_setc hc (c.take_pend _ _) j
    · exact Nat.le_refl _
  split
  · split
    · rename_i c hc
      exact RM.pend_setc hc (c.refused_pend _) j
    · exact Nat.le_refl _
  · exact Nat.le_refl _
theorem RM.deliver_pend (r : RM) (i j : Nat) : (r.deliver i).pend j ≤ r.pend j := by
  unfold RM.deliver
  split
  · exact RM.comes_pend (r.out i) _ j
  · exact Nat.le_refl _
/-- Behind the turns of n clients. -/
theorem RMok.turns_spec {N : Int} {r : RM} (h : RMok N r) (h8 : r.srv.No8) (hw : r.way = []) (n : Nat) (hn : n ≤ r.cl.length) :
    (r.turns n).srv.No8 ∧ (∀ j, j < n → (r.turns n).pend j ≤ r.pend j - 1) ∧ (∀ j, n ≤ j → (r.turns n).pend j = r.pend j) ∧
      ((∀ j, r.pend j = 0) → (r.turns n).srv = r.srv ∧ ∀ j c, j < n → (r.turns n).cl[j]? = some c → c.rev = r.srv.log.length) := by
  induction n with
  | zero => exact ⟨h8, fun j hj => by omega, fun j _ => rfl, fun _ => ⟨rfl, fun j c hj => by omega⟩⟩
  | succ n ih =>
    obtain ⟨i1, i2, i3, i4⟩ := ih (by omega)
    obtain ⟨k1, k2, k3, -⟩ := h.turns hw n
    obtain ⟨c, hc⟩ : ∃ c, (r.turns n).cl[n]? = some c := ⟨_, List.getElem?_eq_getElem (by omega)⟩
    obtain ⟨S', c', e1, e2, e3, e4, e5, -⟩ := k1.turn_spec i1 k2 hc
    have hl := (List.getElem?_eq_some_iff.1 hc).1
    have hpn : (r.turns n).pend n = c.pend := by unfold RM.pend; rw [hc]
    have hpj : ∀ j, j ≠ n → ((r.turns n).turn n).pend j = (r.turns n).pend j := fun j hj => by
      rw [e1]; unfold RM.pend; dsimp only; rw [List.getElem?_set_ne (fun e => hj e.symm)]
    have hpn' : ((r.turns n).turn n).pend n = c'.pend := by rw [e1]; unfold RM.pend; dsimp only; rw [List.getElem?_set_self hl]
    rw [RM.turns_succ]
    refine ⟨by rw [e1]; exact e2, fun j hj => ?_, fun j hj => ?_, fun hz => ?_⟩
    · by_cases ej : j = n
      · subst ej
        rw [hpn']
        have := i3 j (Nat.le_refl _)
        omega
      · rw [hpj j ej]; exact i2 j (by omega)
    · rw [hpj j (by omega)]; exact i3 j (by omega)
    · obtain ⟨z1, z2⟩ := i4 hz
      have hcz : c.pend = 0 := by rw [← hpn, i3 n (Nat.le_refl _)]; exact hz n
      have hS := e5 hcz
      refine ⟨by rw [e1]; exact hS.trans z1, fun j cj hj hcj => ?_⟩
      rw [e1] at hcj
      dsimp only at hcj
      by_cases ej : j = n
      · subst ej
        rw [List.getElem?_set_self hl] at hcj
        cases hcj
        rw [e3, hS, z1]
      · rw [List.getElem?_set_ne (fun e => ej e.symm)] at hcj
        exact z2 j cj (by omega) hcj
/-- Behind a round: one less of each is not there yet. -/
theorem RMok.quiet_spec {N : Int} {r : RM} (h : RMok N r) (h8 : r.srv.No8) : r.quiet.srv.No8 ∧ ∀ j, r.quiet.pend j ≤ r.pend j - 1 := by
  obtain ⟨h1, h2⟩ := h.flows
  have h3 := h.quiet_no8 h8
  have hp : ∀ j, r.flows.pend j ≤ r.pend j := (h.flows_ind (I := fun x => ∀ j, x.pend j ≤ r.pend j) (fun x _ hx _ j => Nat.le_trans (x.deliver_pend 0 j) (hx j)) (fun j => Nat.le_refl _)).1
  have hl := h.flows_cl
  obtain ⟨k1, k2, k3, -⟩ := h1.turns_spec h3 h2 r.cl.length (by omega)
  refine ⟨k1, fun j => ?_⟩
  have := hp j
  unfold RM.quiet
  by_cases hj : j < r.cl.length
  · have := k2 j hj; omega
  · rw [k3 j (by omega)]
    have : r.flows.pend j = 0 := by unfold RM.pend; rw [List.getElem?_eq_none (by omega)]
    omega
/-- A round behind which nothing was left: all have seen all. -/
theorem RMok.quiet_last {N : Int} {r : RM} (h : RMok N r) (h8 : r.srv.No8) (hw : r.way = []) (hz : ∀ j, r.pend j = 0) : r.quiet.srv = r.srv ∧ ∀ (k : Nat) (c : CV), r.quiet.cl[k]? = some c → c.rev = r.srv.log.length ∧ c.has = false := by
  have hq := h.quiet_spec h8
  have e : r.flows = r := RM.flows_nil hw
  obtain ⟨-, -, -, k4⟩ := h.turns_spec h8 hw r.cl.length (Nat.le_refl _)
  obtain ⟨z1, z2⟩ := k4 hz
  have eq : r.quiet = r.turns r.cl.length := by unfold RM.quiet; rw [e]
  refine ⟨by rw [eq]; exact z1, fun k c hc => ?_⟩
  have hk : k < r.cl.length := by
    have := (List.getElem?_eq_some_iff.1 hc).1
    rw [h.quiet.2.2.1] at this
    exact this
  refine ⟨z2 k c hk (by rw [← eq]; exact hc), ?_⟩
  have h1 := hq.2 k
  rw [hz k] at h1
  have h2 : r.quiet.pend k = c.pend := by unfold RM.pend; rw [hc]
  have h3 : c.pend = 0 := by omega
  unfold CV.pend at h3
  cases hh : c.has
  · rfl
  · rw [hh] at h3; simp at h3
/-- What all see in the end. -/
def RM.Met (r : RM) : Prop := r.way = [] ∧ ∀ (k : Nat) (c : CV), r.cl[k]? = some c → c.has = false ∧ c.rev = r.srv.log.length ∧ U.encs c.seen = r.srv.doc ∧ U.encs c.doc = r.srv.doc
theorem RMok.met_of {N : Int} {r : RM} (h : RMok N r) (hw : r.way = []) (hs : ∀ (k : Nat) (c : CV), r.cl[k]? = some c → c.rev = r.srv.log.length ∧ c.has = false) : r.Met := by
  refine ⟨hw, fun k c hc => ?_⟩
  obtain ⟨h1, h2⟩ := hs k c hc
  have hck := h.cl k c hc
  have h3 := hck.seen
  rw [h1] at h3
  have h4 : U.encs c.seen = r.srv.doc := by unfold SV.doc; rw [h3]; rfl
  exact ⟨h2, h1, h4, by rw [(hck.ok.no h2).2.2]; exact h4⟩
/-- ALL SEE THE SAME. -/
theorem RMok.meets {N : Int} {r : RM} (h : RMok N r) (h8 : r.srv.No8) : r.quiet.quiet.quiet.Met := by
  have a1 := h.quiet
  have b1 := h.quiet_spec h8
  have a2 := a1.1.quiet
  have b2 := a1.1.quiet_spec b1.1
  have a3 := a2.1.quiet
  have hz : ∀ j, r.quiet.quiet.pend j = 0 := fun j => by
    have := b1.2 j
    have := b2.2 j
    have := r.pend_le j
    omega
  obtain ⟨z1, z2⟩ := a2.1.quiet_last b2.1 a2.2.1 hz
  exact a3.1.met_of a3.2.1 (fun k c hc => by rw [z1]; exact z2 k c hc)
/-- .. behind two, where one of each is not there yet at most. -/
theorem RMok.meets2 {N : Int} {r : RM} (h : RMok N r) (h8 : r.srv.No8) (h1 : ∀ j, r.pend j ≤ 1) : r.quiet.quiet.Met ∧ r.quiet.quiet.srv = r.quiet.srv := by
  have a1 := h.quiet
  have b1 := h.quiet_spec h8
  have a2 := a1.1.quiet
  have hz : ∀ j, r.quiet.pend j = 0 := fun j => by
    have := b1.2 j
    have := h1 j
    omega
  obtain ⟨z1, z2⟩ := a1.1.quiet_last b1.1 a1.2.1 hz
  exact ⟨a2.1.met_of a2.2.1 (fun k c hc => by rw [z1]; exact z2 k c hc), z1⟩
end Go.Proofs.YtdgdajnbkfmijaaGreatDoor
